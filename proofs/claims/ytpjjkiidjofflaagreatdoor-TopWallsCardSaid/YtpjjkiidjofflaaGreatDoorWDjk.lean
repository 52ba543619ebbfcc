import Derived.Test.YtpjjkiidjofflaaGreatDoorWB1
namespace Go.Dm
open Go Go.Eng Go.RowKit
def Zlx:Op->Bool
 | .alloc _ | .load _ _ | .store _ _ _ | .fieldAddr _ _ _ | .indexAddr _ _ _ | .move _ | .assign _=>true
 | _=>false
def Zwa (o:Oper):Bool:=match o.guard with
 | none=>true
 | some _=>false
def Zen (i:Nat) (o:Oper):Oper:={ o with after:=⟨{ on:=i,ground:=.data } :: o.after.toList⟩ }
def Ze5 (k:Nat):Nat->List Oper->List Oper
 | 0,x :: y :: l=>x :: Zen k y :: l
 | n+1,x :: l=>x :: Ze5 k n l
 | _,l=>l
def Zev (k:Nat):Nat->List Oper->List Oper
 | 0,x :: y :: l=>y :: Zen k x :: l
 | n+1,x :: l=>x :: Zev k n l
 | _,l=>l
def Zz7 (i:Nat):Nat->List Oper->Bool
 | _,[]=>true
 | j,o :: l=>Zwa o && Zlx o.op && (bif Nat.beq j i || Nat.beq j (i+1) then !(inL (Zab o) i) && !(inL (Zab o) (i+1)) else inL (Zab o) i == inL (Zab o) (i+1)) && Zz7 i (j+1) l
theorem Zbs (i:Nat) (o:Oper):Zab (Zen i o)=i :: Zab o:=rfl
theorem Ze4 (k:Nat):∀(n:Nat) (l:List Oper),n+1 < l.length->∀j,(Ze5 k n l)[j]?=if j=n+1 then (l[j]?).map (Zen k) else l[j]?
 | 0,[],h,_=>by simp at h
 | 0,[_],h,_=>by simp at h
 | 0,x :: y :: l,_,j=>by
  match j with
  | 0=>simp[Ze5]
  | 1=>simp[Ze5]
  | j+2=>simp[Ze5]
 | n+1,[],h,_=>by simp at h
 | n+1,x :: l,h,j=>by
  match j with
  | 0=>simp[Ze5]
  | j+1 =>
   have:=Ze4 k n l (by simpa using h) j;simp only[Ze5,List.getElem?_cons_succ,this];by_cases hj:j=n+1
   ·rw[if_pos hj,if_pos (by omega)]
   ·rw[if_neg hj,if_neg (by omega)]
theorem Zot (k:Nat):∀(n:Nat) (l:List Oper),n+1 < l.length->(Zev k n l)[n]?=l[n+1]?/\(Zev k n l)[n+1]?=(l[n]?).map (Zen k)/\∀j,j≠n->j≠n+1->(Zev k n l)[j]?=l[j]?
 | 0,[],h=>by simp at h
 | 0,[_],h=>by simp at h
 | 0,x :: y :: l,_=>⟨by simp[Zev],by simp[Zev],λj h0 h1=>by
  match j,h0,h1 with
  | j+2,_,_=>simp[Zev]⟩
 | n+1,[],h=>by simp at h
 | n+1,x :: l,h=>by
  obtain ⟨h1,h2,h3⟩:=Zot k n l (by simpa using h);refine ⟨by simp only[Zev,List.getElem?_cons_succ];exact h1,by simp only[Zev,List.getElem?_cons_succ];exact h2,λj hj0 hj1=>?_⟩
  match j with
  | 0=>simp[Zev]
  | j+1=>simp only[Zev,List.getElem?_cons_succ];exact h3 j (by omega) (by omega)
theorem Ziz (k:Nat):∀(n:Nat) (l:List Oper),(Ze5 k n l).length=l.length
 | 0,[]=>rfl
 | 0,[_]=>rfl
 | 0,_ :: _ :: _=>rfl
 | _+1,[]=>rfl
 | n+1,_ :: l=>by simp only[Ze5,List.length_cons,Ziz k n l]
theorem Ziy (k:Nat):∀(n:Nat) (l:List Oper),(Zev k n l).length=l.length
 | 0,[]=>rfl
 | 0,[_]=>rfl
 | 0,_ :: _ :: _=>rfl
 | _+1,[]=>rfl
 | n+1,_ :: l=>by simp only[Zev,List.length_cons,Ziy k n l]
theorem ZpL (k:Nat):∀(n:Nat) (l:List Oper),(Ze5 k n l).filterMap (·.dst)=l.filterMap (·.dst)
 | 0,[]=>rfl
 | 0,[_]=>rfl
 | 0,x :: y :: l=>rfl
 | _+1,[]=>rfl
 | n+1,x :: l=>by simp only[Ze5,List.filterMap_cons,ZpL k n l]
theorem Zlj (k:Nat):∀(n:Nat) (l:List Oper) (d:Nat),d∈(Zev k n l).filterMap (·.dst)->d∈l.filterMap (·.dst)
 | 0,[],_,h=>h
 | 0,[_],_,h=>h
 | 0,x :: y :: l,d,h=>by
  simp only[Zev,YaP,Yav] at h ⊢;obtain ⟨o,ho,hd⟩:=h;rcases ho with rfl | rfl | ho
  ·exact ⟨o,.inr (.inl rfl),hd⟩
  ·exact ⟨x,.inl rfl,hd⟩
  ·exact ⟨o,.inr (.inr ho),hd⟩
 | _+1,[],_,h=>h
 | n+1,x :: l,d,h=>by
  simp only[Zev,YaP,Yav] at h ⊢;obtain ⟨o,ho,hd⟩:=h;rcases ho with rfl | ho
  ·exact ⟨o,.inl rfl,hd⟩
  ·obtain ⟨o',h1,h2⟩:=YaP.1 (Zlj k n l d (YaP.2 ⟨o,ho,hd⟩));exact ⟨o',.inr h1,h2⟩
theorem Zi8 (i:Nat):∀(l:List Oper) (j:Nat),Zz7 i j l=true->∀(k:Nat) (o:Oper),l[k]?=some o->o.guard=none/\Zlx o.op=true/\(if j+k=i\/j+k=i+1 then i ∉ Zab o/\i+1 ∉ Zab o else (i∈Zab o↔i+1∈Zab o))
 | [],_,_,k,o,h=>by simp at h
 | x :: l,j,hs,k,o,h=>by
  have inL_mem:∀(m:List Nat) (z:Nat),inL m z=true↔z∈m:=by
   intro m z
   induction m with
   | nil=>simp[inL]
   | cons y m ih =>
    rw[Yav,<- ih,show inL (y :: m) z=(bif Nat.beq y z then true else inL m z) from rfl];cases hb:Nat.beq y z with
    | true=>simp[Nat.eq_of_beq_eq_true hb]
    | false =>
     have:z≠y:=λh=>by rw[h,YaO] at hb;cases hb
     simp[this]
  simp only[Zz7,Yaf] at hs;obtain ⟨⟨⟨h1,h2⟩,h3⟩,h4⟩:=hs
  match k with
  | 0 =>
   simp at h;subst h;refine ⟨?_,h2,?_⟩
   ·unfold Zwa at h1;split at h1
    ·assumption
    ·cases h1
   ·rw[Nat.add_zero];by_cases hj:j=i\/j=i+1
    ·rw[if_pos hj];have hb:(Nat.beq j i || Nat.beq j (i+1))=true:=by
      simp only[YaV];rcases hj with hj | hj
      ·exact .inl (by rw[hj];exact YaO i)
      ·exact .inr (by rw[hj];exact YaO (i+1))
     rw[hb] at h3;simp only[cond_true,Yaf,YaN] at h3;refine ⟨λhm=>?_,λhm=>?_⟩
     ·rw[(inL_mem _ _).2 hm] at h3;cases h3.1
     ·rw[(inL_mem _ _).2 hm] at h3;cases h3.2
    ·rw[if_neg hj];have hb:(Nat.beq j i || Nat.beq j (i+1))=false:=by simp only[YbY];exact ⟨ZcR (by omega),ZcR (by omega)⟩
     rw[hb] at h3;simp only[cond_false,beq_iff_eq] at h3;rw[<- inL_mem,<- inL_mem,h3]
  | k+1 =>have:=Zi8 i l (j+1) h4 k o (by simpa using h);rw[show j+1+k=j+(k+1) by omega] at this;exact this
section
variable {P:Program}
theorem ZxY (s:Sem Value) (w:World):(∃x w',(Sem.bind s λy=>Sem.pure (Next.value y)).run P w=.ok (.value x) w')\/∃h w',(Sem.bind s λy=>Sem.pure (Next.value y)).run P w=.halt h w':=by
 rw[Sem.run_bind'];cases s.run P w with
 | ok x w'=>exact .inl ⟨x,w',rfl⟩
 | halt h w'=>exact .inr ⟨h,w',rfl⟩
theorem ZsP (s:Sem Unit) (w:World):(∃w',(Sem.bind s λ_=>Sem.pure Next.skip).run P w=.ok .skip w')\/∃h w',(Sem.bind s λ_=>Sem.pure Next.skip).run P w=.halt h w':=by
 rw[Sem.run_bind'];cases s.run P w with
 | ok x w'=>exact .inl ⟨w',rfl⟩
 | halt h w'=>exact .inr ⟨h,w',rfl⟩
theorem ZtA {o:Oper} (h:Zlx o.op=true) (ρ:Operand->Value) (w:World):(∃x w',(execOp ρ o).run P w=.ok (.value x) w')\/(∃w',(execOp ρ o).run P w=.ok .skip w')\/∃e w',(execOp ρ o).run P w=.halt e w':=by
 obtain ⟨dst,op,ty,pos,af,gd⟩:=o;have hv:∀s:Sem Value,execOp ρ ⟨dst,op,ty,pos,af,gd⟩=Sem.bind s (λy=>Sem.pure (Next.value y))->((∃x w',(execOp ρ ⟨dst,op,ty,pos,af,gd⟩).run P w=.ok (.value x) w')\/(∃w',(execOp ρ ⟨dst,op,ty,pos,af,gd⟩).run P w=.ok .skip w')\/∃e w',(execOp ρ ⟨dst,op,ty,pos,af,gd⟩).run P w=.halt e w'):=λs e=>by
  rcases ZxY (P:=P) s w with h | h
  ·exact .inl (by rw[e];exact h)
  ·exact .inr (.inr (by rw[e];exact h))
 cases op<;>first | (have hb:false=true:=h;exact absurd hb (by decide)) | skip
 case alloc e=>exact hv (Instr.alloc e true (.tuple #[])) rfl
 case load t x=>exact hv (Instr.loadAt t (ρ x)) rfl
 case store t a x =>
  rcases ZsP (P:=P) (Instr.storeAt t (ρ a) (ρ x)) w with h | h
  ·exact .inr (.inl h)
  ·exact .inr (.inr h)
 case fieldAddr t x f=>exact hv (Instr.fieldAt t (ρ x) f) rfl
 case indexAddr t x y=>exact hv (Instr.indexAt t (ρ x) (ρ y)) rfl
 case move x=>exact .inl ⟨_,w,rfl⟩
 case assign x=>exact .inl ⟨_,w,rfl⟩
theorem ZxO {o:Oper} (hp:Zlx o.op=true) {a:Act} {w:World} {K K':Act->World->Prop} {Q:Exit->Act->World->Prop} (h:o.wp P a w K Q) (h':o.wp P a w K' Q):o.wp P a w (λa w=>K a w/\K' a w) Q:=by
 unfold Oper.wp at *;rcases ZtA (P:=P) hp a.eval w with ⟨x,w',e⟩ | ⟨w',e⟩ | ⟨x,w',e⟩
 ·rw[e] at h h' ⊢;exact ⟨h,h'⟩
 ·rw[e] at h h' ⊢;exact ⟨h,h'⟩
 ·rw[e] at h h' ⊢;cases x<;>exact h
theorem ZcB {ops ops':Array Oper} {Q:Exit->Act->World->Prop} {k k':Nat} {o:Oper} {j:Nat} (h:ops[k]?=some o) (h':ops'[k']?=some (Zen j o)\/ops'[k']?=some o) (hg:o.guard=none) {K:Act->World->Prop} {a:Act} {w:World} :
  wpOp P ops' Q k' K a w↔wpOp P ops Q k K a w:=by
 have hw:∀y,Region.wanted o y=true:=λy=>by unfold Region.wanted;rw[hg]
 have hw':∀y,Region.wanted (Zen j o) y=true:=λy=>by unfold Region.wanted;rw[show (Zen j o).guard=none from hg]
 rcases h' with h' | h'
 ·unfold wpOp;rw[h,h'];simp only[hw,hw',if_true];exact Ybg
 ·unfold wpOp;rw[h,h'];simp only[hw,if_true]
variable {L:List Oper} {i:Nat} (hi:i+1 < L.length) (hs:Zz7 i 0 L=true) {Q:Exit->Act->World->Prop}
include hi hs
theorem Zz3:∀(fuel:Nat) (listed:Array Bool) (a:Act) (w:World),listed.size=L.length->listed.getD i false=true->wpAny P .any ⟨Ze5 i i L⟩ Q fuel listed a w->wpAny P .any ⟨L⟩ Q fuel listed a w:=by
 have hlen:(Ze5 i i L).length=L.length:=Ziz _ _ _;have rd:∀(listed:Array Bool),listed.size=L.length->listed.getD i false=true->∀k,(k∈Region.ready .any ⟨Ze5 i i L⟩ listed↔k∈Region.ready .any ⟨L⟩ listed):=by
  intro listed hsz hl k;rw[ZaC (by simpa [hlen] using hsz),ZaC (by simpa using hsz)];have e1:(⟨Ze5 i i L⟩:Array Oper)[k]?=(Ze5 i i L)[k]?:=by simp
  have e2:(⟨L⟩:Array Oper)[k]?=L[k]?:=by simp
  rw[e1,e2,Ze4 i i L hi k];have e3:(⟨Ze5 i i L⟩:Array Oper).size=(⟨L⟩:Array Oper).size:=hlen;rw[e3];refine and_congr_right λhk=>and_congr_right λ_=>?_;by_cases hk1:k=i+1
  ·rw[if_pos hk1];constructor
   ·intro h o ho e he;exact h (Zen i o) (by rw[ho];rfl) e (by rw[Zbs];exact Yad _ he)
   ·intro h o' ho' e he;obtain ⟨o,ho,rfl⟩:=YaD.1 ho';rw[Zbs,Yav] at he;rcases he with rfl | he
    ·exact hl
    ·exact h o ho e he
  ·rw[if_neg hk1]
 intro fuel
 induction fuel with
 | zero =>intro listed a w hsz hl h;refine ⟨?_,h.2⟩;rw[YaM];intro k hk;have:=(rd listed hsz hl k).2 hk;rw[h.1] at this;simp at this
 | succ fuel ih =>
  intro listed a w hsz hl h;refine ⟨λh0=>h.1 ?_,λk hk=>?_⟩
  ·rw[YaM];intro k hk;have:=(rd listed hsz hl k).1 hk;rw[h0] at this;simp at this
  ·have hkA:=(rd listed hsz hl k).2 hk;have hkl:k < L.length:=((ZaC (by simpa using hsz)).1 hk).1;have hw:=wpOp_mono (K':=wpAny P .any ⟨L⟩ Q fuel (listed.setIfInBounds k true)) (λa w hx=>ih _ a w (by simpa using hsz) (by rw[ZaJ (by omega)];split<;>simp_all) hx) (h.2 k hkA);have ho:(⟨L⟩:Array Oper)[k]?=some L[k]:=by simp[hkl]
   have hg:=(Zi8 i L 0 hs k L[k] (by simp[hkl])).1;refine (ZcB (j:=i) ho ?_ hg).1 hw;have e1:(⟨Ze5 i i L⟩:Array Oper)[k]?=(Ze5 i i L)[k]?:=by simp
   rw[e1,Ze4 i i L hi k];by_cases hk1:k=i+1
   ·rw[if_pos hk1];left;simp[hkl]
   ·rw[if_neg hk1];right;simp[hkl]
def sw (i k:Nat):Nat:=if k=i then i+1 else if k=i+1 then i else k
omit hi hs in
theorem Zvy (i k:Nat):sw i (sw i k)=k:=by unfold sw;(repeat' split)<;>omega
theorem Zz2:∀(fuel:Nat) (lB lL:Array Bool) (a:Act) (w:World),lB.size=L.length->lL.size=L.length->(∀k,lB.getD k false=lL.getD (sw i k) false)->lL.getD (i+1) false=true->wpAny P .any ⟨Zev i i L⟩ Q fuel lB a w->wpAny P .any ⟨L⟩ Q fuel lL a w:=by
 have hlen:(Zev i i L).length=L.length:=Ziy _ _ _;obtain ⟨b1,b2,b3⟩:=Zot i i L hi;have opAt:∀k o,L[k]?=some o->(⟨Zev i i L⟩:Array Oper)[sw i k]?=some (Zen i o)/\k=i\/(⟨Zev i i L⟩:Array Oper)[sw i k]?=some o/\k≠i:=by
  intro k o ho;have e1:(⟨Zev i i L⟩:Array Oper)[sw i k]?=(Zev i i L)[sw i k]?:=by simp
  rw[e1];unfold sw;by_cases h1:k=i
  ·rw[if_pos h1];subst h1;exact .inl ⟨by rw[b2,ho];rfl,rfl⟩
  ·rw[if_neg h1];by_cases h2:k=i+1
   ·rw[if_pos h2];exact .inr ⟨by rw[b1,<- h2,ho],h1⟩
   ·rw[if_neg h2];exact .inr ⟨by rw[b3 k h1 h2,ho],h1⟩
 have swl:∀k,sw i k < L.length↔k < L.length:=by
  intro k;unfold sw
  (repeat' split)<;>omega
 have rd:∀(lB lL:Array Bool),lB.size=L.length->lL.size=L.length->(∀k,lB.getD k false=lL.getD (sw i k) false)->lL.getD (i+1) false=true->∀k,(sw i k∈Region.ready .any ⟨Zev i i L⟩ lB↔k∈Region.ready .any ⟨L⟩ lL):=by
  intro lB lL hB hL hr hl k;have hrs:∀k,lB.getD (sw i k) false=lL.getD k false:=λk=>by rw[hr,Zvy]
  have hBi:lB.getD i false=true:=by rw[hr];unfold sw;rw[if_pos rfl];exact hl
  rw[ZaC (by simpa [hlen] using hB),ZaC (by simpa using hL),hrs];have e3:(⟨Zev i i L⟩:Array Oper).size=L.length:=hlen;have e4:(⟨L⟩:Array Oper).size=L.length:=rfl;rw[e3,e4,swl];refine and_congr_right λhk=>and_congr_right λ_=>?_;have ho:L[k]?=some L[k]:=by simp[hk]
  have e2:(⟨L⟩:Array Oper)[k]?=L[k]?:=by simp
  obtain ⟨_,_,hsy⟩:=Zi8 i L 0 hs k L[k] ho;rw[YaA] at hsy;have key:(∀e∈Zab L[k],lB.getD e false=true)↔∀e∈Zab L[k],lL.getD e false=true:=by
   by_cases hc:k=i\/k=i+1
   ·rw[if_pos hc] at hsy;have hne:∀e∈Zab L[k],e≠i/\e≠i+1:=λe he=>⟨λh=>hsy.1 (h▸he),λh=>hsy.2 (h▸he)⟩;have hsame:∀e∈Zab L[k],lB.getD e false=lL.getD e false:=λe he=>by rw[hr];unfold sw;rw[if_neg (hne e he).1,if_neg (hne e he).2]
    exact ⟨λh e he=>by rw[<- hsame e he];exact h e he,λh e he=>by rw[hsame e he];exact h e he⟩
   ·rw[if_neg hc] at hsy;have hsm:∀e,e∈Zab L[k]↔sw i e∈Zab L[k]:=by
     intro e;unfold sw;by_cases h1:e=i
     ·rw[if_pos h1,h1];exact hsy
     ·rw[if_neg h1];by_cases h2:e=i+1
      ·rw[if_pos h2,h2];exact hsy.symm
      ·rw[if_neg h2]
    exact ⟨λh e he=>by rw[<- hrs];exact h _ ((hsm e).1 he),λh e he=>by rw[hr];exact h _ ((hsm e).1 he)⟩
  rw[e2];rcases opAt k L[k] ho with ⟨h1,h2⟩ | ⟨h1,h2⟩
  ·rw[h1,ho];constructor
   ·intro h o ho' e he;have:=Ya5 ho';subst this;exact key.1 (λe he=>h _ rfl e (by rw[Zbs];exact Yad _ he)) e he
   ·intro h o ho' e he;have:=Ya5 ho';subst this;rw[Zbs,Yav] at he;rcases he with rfl | he
    ·exact hBi
    ·exact key.2 (h _ rfl) e he
  ·rw[h1,ho];constructor
   ·intro h o ho' e he;have:=Ya5 ho';subst this;exact key.1 (h _ rfl) e he
   ·intro h o ho' e he;have:=Ya5 ho';subst this;exact key.2 (h _ rfl) e he
 intro fuel
 induction fuel with
 | zero =>intro lB lL a w hB hL hr hl h;refine ⟨?_,h.2⟩;rw[YaM];intro k hk;have:=(rd lB lL hB hL hr hl k).2 hk;rw[h.1] at this;simp at this
 | succ fuel ih =>
  intro lB lL a w hB hL hr hl h;refine ⟨λh0=>h.1 ?_,λk hk=>?_⟩
  ·rw[YaM];intro k hk;have:=(rd lB lL hB hL hr hl (sw i k)).1 (by rw[Zvy];exact hk);rw[h0] at this;simp at this
  ·have hkB:=(rd lB lL hB hL hr hl k).2 hk;have hkl:k < L.length:=((ZaC (by simpa using hL)).1 hk).1;have hw:=wpOp_mono (K':=wpAny P .any ⟨L⟩ Q fuel (lL.setIfInBounds k true)) (λa w hx=>ih (lB.setIfInBounds (sw i k) true) (lL.setIfInBounds k true) a w (by simpa using hB) (by simpa using hL) (λq=>by
    rw[ZaJ (by rw[hB];exact (swl k).2 hkl),ZaJ (by omega),hr];by_cases hq:q=sw i k
    ·rw[if_pos hq,if_pos (by rw[hq,Zvy])]
    ·rw[if_neg hq,if_neg (λh=>hq (by rw[<- h,Zvy]))]) (by rw[ZaJ (by omega)];split<;>simp_all) hx) (h.2 (sw i k) hkB)
   have ho:(⟨L⟩:Array Oper)[k]?=some L[k]:=by simp[hkl]
   have hg:=(Zi8 i L 0 hs k L[k] (by simp[hkl])).1;refine (ZcB (j:=i) ho ?_ hg).1 hw;rcases opAt k L[k] (by simp[hkl]) with ⟨h1,_⟩ | ⟨h1,_⟩
   ·exact .inl h1
   ·exact .inr h1
theorem Zz4:∀(fuel:Nat) (listed:Array Bool) (a:Act) (w:World),listed.size=L.length->listed.getD i false=false->listed.getD (i+1) false=false ->
  wpAny P .any ⟨Ze5 i i L⟩ Q fuel listed a w->wpAny P .any ⟨Zev i i L⟩ Q fuel listed a w->wpAny P .any ⟨L⟩ Q fuel listed a w:=by
 have hlA:(Ze5 i i L).length=L.length:=Ziz _ _ _;have hlB:(Zev i i L).length=L.length:=Ziy _ _ _;obtain ⟨b1,b2,b3⟩:=Zot i i L hi;have eL:∀k:Nat,(⟨L⟩:Array Oper)[k]?=L[k]?:=λk=>by simp
 have eA:∀k:Nat,(⟨Ze5 i i L⟩:Array Oper)[k]?=(Ze5 i i L)[k]?:=λk=>by simp
 have eB:∀k:Nat,(⟨Zev i i L⟩:Array Oper)[k]?=(Zev i i L)[k]?:=λk=>by simp
 have rA:∀(listed:Array Bool),listed.size=L.length->∀k,k≠i+1->k∈Region.ready .any ⟨L⟩ listed->k∈Region.ready .any ⟨Ze5 i i L⟩ listed:=by intro listed hsz k hk h;rw[ZaC (by show listed.size=L.length;exact hsz)] at h;rw[ZaC (by show listed.size=(Ze5 i i L).length;rw[hlA];exact hsz)];refine ⟨by show k < (Ze5 i i L).length;rw[hlA];exact h.1,h.2.1,λo ho=>h.2.2 o ?_⟩;rw[eA,Ze4 i i L hi k,if_neg hk] at ho;rw[eL];exact ho
 have rA':∀(listed:Array Bool),listed.size=L.length->∀k,k∈Region.ready .any ⟨Ze5 i i L⟩ listed->k∈Region.ready .any ⟨L⟩ listed:=by
  intro listed hsz k h;rw[ZaC (by show listed.size=(Ze5 i i L).length;rw[hlA];exact hsz)] at h;rw[ZaC (by show listed.size=L.length;exact hsz)];refine ⟨by have:=h.1;show k < L.length;rw[<- hlA];exact this,h.2.1,λo ho e he=>?_⟩;rw[eL] at ho;by_cases hk:k=i+1
  ·exact h.2.2 (Zen i o) (by rw[eA,Ze4 i i L hi k,if_pos hk,ho];rfl) e (by rw[Zbs];exact Yad _ he)
  ·exact h.2.2 o (by rw[eA,Ze4 i i L hi k,if_neg hk,ho]) e he
 have rB:∀(listed:Array Bool),listed.size=L.length->∀k,k≠i->k≠i+1->k∈Region.ready .any ⟨L⟩ listed->k∈Region.ready .any ⟨Zev i i L⟩ listed:=by intro listed hsz k hk hk1 h;rw[ZaC (by show listed.size=L.length;exact hsz)] at h;rw[ZaC (by show listed.size=(Zev i i L).length;rw[hlB];exact hsz)];refine ⟨by show k < (Zev i i L).length;rw[hlB];exact h.1,h.2.1,λo ho=>h.2.2 o ?_⟩;rw[eB,b3 k hk hk1] at ho;rw[eL];exact ho
 have rBi:∀(listed:Array Bool),listed.size=L.length->listed.getD i false=false->i+1∈Region.ready .any ⟨L⟩ listed->i∈Region.ready .any ⟨Zev i i L⟩ listed:=by intro listed hsz hl h;rw[ZaC (by show listed.size=L.length;exact hsz)] at h;rw[ZaC (by show listed.size=(Zev i i L).length;rw[hlB];exact hsz)];refine ⟨by show i < (Zev i i L).length;omega,hl,λo ho=>h.2.2 o ?_⟩;rw[eB,b1] at ho;rw[eL];exact ho
 intro fuel
 induction fuel with
 | zero =>
  intro listed a w hsz h0 h1 hA hB;refine ⟨?_,hA.2⟩;rw[YaM];intro k hk;by_cases hk1:k=i+1
  ·have:=rBi listed hsz h0 (hk1▸hk);rw[hB.1] at this;simp at this
  ·have:=rA listed hsz k hk1 hk;rw[hA.1] at this;simp at this
 | succ fuel ih =>
  intro listed a w hsz h0 h1 hA hB;refine ⟨λhn=>hA.1 ?_,λk hk=>?_⟩
  ·rw[YaM];intro k hk;have:=rA' listed hsz k hk;rw[hn] at this;simp at this
  have hkl:k < L.length:=((ZaC (by simpa using hsz)).1 hk).1;have ho:(⟨L⟩:Array Oper)[k]?=some L[k]:=by simp[hkl]
  obtain ⟨hg,hpl,_⟩:=Zi8 i L 0 hs k L[k] (by simp[hkl]);by_cases hk0:k=i
  ·have hw:=wpOp_mono (K':=wpAny P .any ⟨L⟩ Q fuel (listed.setIfInBounds k true)) (λa w hx=>Zz3 hi hs fuel _ a w (by simpa using hsz) (by rw[ZaJ (by omega),if_pos hk0.symm]) hx) (hA.2 k (rA listed hsz k (by omega) hk));refine (ZcB (j:=i) ho (.inr ?_) hg).1 hw;rw[eA,Ze4 i i L hi k,if_neg (by omega)];simp[hkl]
  by_cases hk1:k=i+1
  ·have hw:=wpOp_mono (K':=wpAny P .any ⟨L⟩ Q fuel (listed.setIfInBounds k true)) (λa w hx=>Zz2 hi hs fuel (listed.setIfInBounds i true) (listed.setIfInBounds k true) a w (by simpa using hsz) (by simpa using hsz) (λq=>by
    rw[ZaJ (by omega),ZaJ (by omega)];unfold sw;by_cases hq:q=i
    ·rw[if_pos hq,if_pos hq,if_pos hk1.symm]
    ·rw[if_neg hq,if_neg hq];by_cases hq1:q=i+1
     ·rw[if_pos hq1,if_neg (by omega),hq1,h1,h0]
     ·rw[if_neg hq1,if_neg (by omega)]) (by rw[ZaJ (by omega),if_pos hk1.symm]) hx) (hB.2 i (rBi listed hsz h0 (hk1▸hk)))
   refine (ZcB (k':=i) (j:=i) ho (.inr ?_) hg).1 hw;rw[eB,b1,<- hk1];simp[hkl]
  ·have hwA:=hA.2 k (rA listed hsz k hk1 hk);have hwB:=hB.2 k (rB listed hsz k hk0 hk1 hk);have hwA':=(ZcB (P:=P) (ops':=⟨Ze5 i i L⟩) (k':=k) (Q:=Q) (j:=i) (K:=wpAny P .any ⟨Ze5 i i L⟩ Q fuel (listed.setIfInBounds k true)) (a:=a) (w:=w) ho (.inr (by rw[eA,Ze4 i i L hi k,if_neg hk1];simp[hkl])) hg).1 hwA;have hwB':=(ZcB (P:=P) (ops':=⟨Zev i i L⟩) (k':=k) (Q:=Q) (j:=i) (K:=wpAny P .any ⟨Zev i i L⟩ Q fuel (listed.setIfInBounds k true)) (a:=a) (w:=w) ho (.inr (by rw[eB,b3 k hk0 hk1];simp[hkl])) hg).1 hwB;have both:wpOp P ⟨L⟩ Q k (λa w=>wpAny P .any ⟨Ze5 i i L⟩ Q fuel (listed.setIfInBounds k true) a w/\wpAny P .any ⟨Zev i i L⟩ Q fuel (listed.setIfInBounds k true) a w) a w:=by
    unfold wpOp at hwA' hwB' ⊢;rw[ho] at hwA' hwB' ⊢;have hwt:∀y,Region.wanted L[k] y=true:=λy=>by unfold Region.wanted;rw[hg]
    simp only[hwt] at hwA' hwB' ⊢;rw[if_pos trivial] at hwA' hwB' ⊢;rcases hwA' with hA | hA
    ·rcases hwB' with hB | hB
     ·exact .inl (ZxO hpl hA hB)
     ·exact .inr hB
    ·exact .inr hA
   exact wpOp_mono (λa w hx=>ih _ a w (by simpa using hsz) (by rw[ZaJ (by omega),if_neg (λh=>hk0 h.symm)];exact h0) (by rw[ZaJ (by omega),if_neg (λh=>hk1 h.symm)];exact h1) hx.1 hx.2) both
end
def Zcd (i:Nat):Nat->List Oper->List Oper
 | _,[]=>[]
 | 0,y :: l=>Zen i y :: l
 | n+1,x :: l=>x :: Zcd i n l
theorem ZiL (i:Nat):∀(n:Nat) (l:List Oper) (k:Nat),(Zcd i n l)[k]?=if k=n then (l[k]?).map (Zen i) else l[k]?
 | n,[],k=>by cases n<;>simp[Zcd]
 | 0,y :: l,k=>by cases k<;>simp[Zcd]
 | n+1,x :: l,k=>by
  cases k with
  | zero=>simp[Zcd]
  | succ k =>
   simp only[Zcd,List.getElem?_cons_succ,ZiL i n l k];by_cases h:k=n
   ·rw[if_pos h,if_pos (by omega)]
   ·rw[if_neg h,if_neg (by omega)]
theorem Zg1 (i:Nat):∀(n:Nat) (l:List Oper),(Zcd i n l).length=l.length
 | n,[]=>by cases n<;>rfl
 | 0,_ :: _=>rfl
 | n+1,_ :: l=>by simp only[Zcd,List.length_cons,Zg1 i n l]
theorem Znm (i:Nat):∀(n:Nat) (l:List Oper),(Zcd i n l).filterMap (·.dst)=l.filterMap (·.dst)
 | n,[]=>by cases n<;>rfl
 | 0,_ :: _=>rfl
 | n+1,x :: l=>by simp only[Zcd,List.filterMap_cons,Znm i n l]
structure LateOk (i j:Nat) (L:List Oper):Prop where
 ne:i≠j
 grd:∀(k:Nat) (o:Oper),L[k]?=some o->o.guard=none
 one:∃p d s x,L[i]?=some p/\p.dst=some d/\p.op=.extract (.tmp s) x
 two:∃q t x y,L[j]?=some q/\q.dst=none/\q.op=.store t (.tmp x) (.tmp y)/\∀p d,L[i]?=some p->p.dst=some d->x≠d/\y≠d
 edg:∀p q,L[i]?=some p->L[j]?=some q->∀e∈Zab p,e∈Zab q
 all:∀(k:Nat) (o q:Oper),L[k]?=some o->L[j]?=some q->k≠i->k≠j->k∈Zab q\/i∈Zab o
section
variable {P:Program} {L:List Oper} {i j:Nat} (hok:LateOk i j L) {Q:Exit->Act->World->Prop}
include hok
theorem ZtY:∀(fuel:Nat) (listed:Array Bool) (a:Act) (w:World),listed.size=L.length->listed.getD i false=true->wpAny P .any ⟨Zcd i j L⟩ Q fuel listed a w->wpAny P .any ⟨L⟩ Q fuel listed a w:=by
 have hlen:(Zcd i j L).length=L.length:=Zg1 _ _ _;have rd:∀(listed:Array Bool),listed.size=L.length->listed.getD i false=true->∀k,(k∈Region.ready .any ⟨Zcd i j L⟩ listed↔k∈Region.ready .any ⟨L⟩ listed):=by
  intro listed hsz hl k;rw[ZaC (by simpa [hlen] using hsz),ZaC (by simpa using hsz)];have e1:(⟨Zcd i j L⟩:Array Oper)[k]?=(Zcd i j L)[k]?:=by simp
  have e2:(⟨L⟩:Array Oper)[k]?=L[k]?:=by simp
  rw[e1,e2,ZiL i j L k];have e3:(⟨Zcd i j L⟩:Array Oper).size=(⟨L⟩:Array Oper).size:=hlen;rw[e3];refine and_congr_right λhk=>and_congr_right λ_=>?_;by_cases hk1:k=j
  ·rw[if_pos hk1];constructor
   ·intro h o ho e he;exact h (Zen i o) (by rw[ho];rfl) e (by rw[Zbs];exact Yad _ he)
   ·intro h o' ho' e he;obtain ⟨o,ho,rfl⟩:=YaD.1 ho';rw[Zbs,Yav] at he;rcases he with rfl | he
    ·exact hl
    ·exact h o ho e he
  ·rw[if_neg hk1]
 intro fuel
 induction fuel with
 | zero =>intro listed a w hsz hl h;refine ⟨?_,h.2⟩;rw[YaM];intro k hk;have:=(rd listed hsz hl k).2 hk;rw[h.1] at this;simp at this
 | succ fuel ih =>
  intro listed a w hsz hl h;refine ⟨λh0=>h.1 ?_,λk hk=>?_⟩
  ·rw[YaM];intro k hk;have:=(rd listed hsz hl k).1 hk;rw[h0] at this;simp at this
  ·have hkA:=(rd listed hsz hl k).2 hk;have hkl:k < L.length:=((ZaC (by simpa using hsz)).1 hk).1;have hw:=wpOp_mono (K':=wpAny P .any ⟨L⟩ Q fuel (listed.setIfInBounds k true)) (λa w hx=>ih _ a w (by simpa using hsz) (by rw[ZaJ (by omega)];split<;>simp_all) hx) (h.2 k hkA);have ho:(⟨L⟩:Array Oper)[k]?=some L[k]:=by simp[hkl]
   have hg:=hok.grd k L[k] (by simp[hkl]);refine (ZcB (j:=i) ho ?_ hg).1 hw;have e1:(⟨Zcd i j L⟩:Array Oper)[k]?=(Zcd i j L)[k]?:=by simp
   rw[e1,ZiL i j L k];by_cases hk1:k=j
   ·rw[if_pos hk1];left;simp[hkl]
   ·rw[if_neg hk1];right;simp[hkl]
omit hok in
theorem ZvG (l:Array Bool) (a b:Nat):(l.setIfInBounds a true).setIfInBounds b true=(l.setIfInBounds b true).setIfInBounds a true:=by apply Array.ext (by simp);intro z h1 h2;rw[YbJ (by simpa using h1),YbJ (by simpa using h2),YbJ (by simpa using h1),YbJ (by simpa using h1)];by_cases ha:a=z<;>by_cases hb:b=z<;>simp[ha,hb]
omit hok in
theorem Zzd {o:Oper} {x:Operand} {n:Nat} (h:o.op=.extract x n) (ρ:Operand->Value):(∃v,∀w:World,(execOp ρ o).run P w=.ok (.value v) w)\/(∃m,∀w:World,(execOp ρ o).run P w=.halt (.stuck m) w):=by
 unfold execOp;rw[h];simp only[Instr.extract];split
 ·split
  ·exact .inl ⟨_,λw=>rfl⟩
  ·exact .inr ⟨_,λw=>rfl⟩
 ·exact .inr ⟨_,λw=>rfl⟩
omit hok in
theorem Zx9 {o:Oper} {t:TypeId} {x y:Operand} (h:o.op=.store t x y) (ρ:Operand->Value) (w:World):(∃w',(execOp ρ o).run P w=.ok .skip w')\/∃e w',(execOp ρ o).run P w=.halt e w':=by
 have e:execOp ρ o=Sem.bind (Instr.storeAt t (ρ x) (ρ y)) (λ_=>Sem.pure Next.skip):=by unfold execOp;rw[h];rfl
 rw[e];exact ZsP _ _
theorem ZyP (hQ:∀ch a w,¬Q (.panic ch) a w) (hL:¬LetsOut Q):∀(fuel:Nat) (listed:Array Bool) (a:Act) (w:World),listed.size=L.length->listed.getD j false=false->wpAny P .any ⟨Zcd i j L⟩ Q fuel listed a w->wpAny P .any ⟨L⟩ Q fuel listed a w:=by
 have hlen:(Zcd i j L).length=L.length:=Zg1 _ _ _;obtain ⟨p,d,s,x,hp,hpd,hpo⟩:=hok.one;obtain ⟨q,t,u,y,hq,hqd,hqo,hqn⟩:=hok.two;obtain ⟨hu,hy⟩:=hqn p d hp hpd;have hed:=hok.edg p q hp hq;have hall:=λk o h=>hok.all k o q h hq;have hne:=hok.ne;have il:i < L.length:=(Yaa.1 hp).1;have jl:j < L.length:=(Yaa.1 hq).1;have eL:∀k:Nat,(⟨L⟩:Array Oper)[k]?=L[k]?:=λk=>by simp
 have eA:∀k:Nat,(⟨Zcd i j L⟩:Array Oper)[k]?=if k=j then (L[k]?).map (Zen i) else L[k]?:=λk=>by rw[<- ZiL i j L k];simp
 have szL:(⟨L⟩:Array Oper).size=L.length:=rfl;have szA:(⟨Zcd i j L⟩:Array Oper).size=L.length:=hlen;have wn:∀(o:Oper) f,o.guard=none->Region.wanted o f=true:=λo f h=>by unfold Region.wanted;rw[h]
 have inL':∀(listed:Array Bool),listed.size=L.length->∀k,k∈Region.ready .any ⟨L⟩ listed↔k < L.length/\listed.getD k false=false/\∀o,L[k]?=some o->∀e∈Zab o,listed.getD e false=true:=λlisted hsz k=>by rw[ZaC (by rw[szL];exact hsz),eL,szL]
 have inA':∀(listed:Array Bool),listed.size=L.length->∀k,k∈Region.ready .any ⟨Zcd i j L⟩ listed↔k < L.length/\listed.getD k false=false/\∀o,(if k=j then (L[k]?).map (Zen i) else L[k]?)=some o->∀e∈Zab o,listed.getD e false=true:=λlisted hsz k=>by rw[ZaC (by rw[szA];exact hsz),eA,szA]
 have rA:∀(listed:Array Bool),listed.size=L.length->∀k,(k=j->listed.getD i false=true)->k∈Region.ready .any ⟨L⟩ listed->k∈Region.ready .any ⟨Zcd i j L⟩ listed:=by
  intro listed hsz k hk h;rw[inL' listed hsz] at h;rw[inA' listed hsz];refine ⟨h.1,h.2.1,λo ho e he=>?_⟩;by_cases hkj:k=j
  ·rw[if_pos hkj] at ho;obtain ⟨o',ho',rfl⟩:=YaD.1 ho;rw[Zbs,Yav] at he;rcases he with rfl | he
   ·exact hk hkj
   ·exact h.2.2 o' ho' e he
  ·rw[if_neg hkj] at ho;exact h.2.2 o ho e he
 have rA':∀(listed:Array Bool),listed.size=L.length->∀k,k∈Region.ready .any ⟨Zcd i j L⟩ listed->k∈Region.ready .any ⟨L⟩ listed:=by
  intro listed hsz k h;rw[inA' listed hsz] at h;rw[inL' listed hsz];refine ⟨h.1,h.2.1,λo ho e he=>?_⟩;by_cases hkj:k=j
  ·exact h.2.2 (Zen i o) (by rw[if_pos hkj,ho];rfl) e (by rw[Zbs];exact Yad _ he)
  ·exact h.2.2 o (by rw[if_neg hkj];exact ho) e he
 have rI:∀(listed:Array Bool),listed.size=L.length->listed.getD i false=false->j∈Region.ready .any ⟨L⟩ listed->i∈Region.ready .any ⟨Zcd i j L⟩ listed:=by intro listed hsz hl h;rw[inL' listed hsz] at h;rw[inA' listed hsz];refine ⟨il,hl,λo ho e he=>?_⟩;rw[if_neg hne,hp] at ho;injection ho with ho;subst ho;exact h.2.2 q hq e (hed e he)
 intro fuel
 induction fuel with
 | zero =>
  intro listed a w hsz h0 hA;refine ⟨?_,hA.2⟩;rw[YaM];intro k hk;by_cases hc:k=j->listed.getD i false=true
  ·have:=rA listed hsz k hc hk;rw[hA.1] at this;simp at this
  ·have hkj:k=j:=YaG λh=>hc (λe=>absurd e h);subst hkj;have:=rI listed hsz (by cases hh:listed.getD i false with | false=>rfl | true=>exact absurd (λ_=>hh) hc) hk;rw[hA.1] at this;simp at this
 | succ fuel ih =>
  intro listed a w hsz h0 hA;refine ⟨λhn=>hA.1 ?_,λk hk=>?_⟩
  ·rw[YaM];intro k hk;have:=rA' listed hsz k hk;rw[hn] at this;simp at this
  have hkl:k < L.length:=((inL' listed hsz k).1 hk).1;have ho:(⟨L⟩:Array Oper)[k]?=some L[k]:=by simp[hkl]
  have hg:=hok.grd k L[k] (by simp[hkl]);by_cases hkj:k=j
  ·subst hkj;cases hli:listed.getD i false with
   | true =>have hw:=wpOp_mono (K':=wpAny P .any ⟨L⟩ Q fuel (listed.setIfInBounds k true)) (λa w hx=>ZtY hok fuel _ a w (by simpa using hsz) (by rw[ZaJ (by omega),if_neg hne,hli]) hx) (hA.2 k (rA listed hsz k (λ_=>hli) hk));refine (ZcB (k':=k) (j:=i) ho (.inl ?_) hg).1 hw;rw[eA,if_pos rfl];simp[hkl]
   | false =>
    have h1:=hA.2 i (rI listed hsz hli hk);unfold wpOp at h1;rw[eA,if_neg hne,hp] at h1;simp only[wn p _ (hok.grd i p hp),if_true] at h1
    replace h1:=h1.resolve_right λh=>hL h.2
    unfold Oper.wp at h1;rcases Zzd (P:=P) hpo a.eval with ⟨v,hv⟩ | ⟨m,hm⟩
    ·rw[hv w] at h1
     replace h1:wpAny P .any ⟨Zcd i k L⟩ Q fuel (listed.setIfInBounds i true) (a.put p.dst v) w:=h1
     have hsz1:(listed.setIfInBounds i true).size=L.length:=by simpa using hsz
     have hjr:k∈Region.ready .any ⟨Zcd i k L⟩ (listed.setIfInBounds i true):=by
      rw[inA' _ hsz1];refine ⟨jl,by rw[ZaJ (by omega),if_neg (λh=>hne h.symm)];exact h0,λo ho e he=>?_⟩;rw[if_pos rfl,hq] at ho;injection ho with ho;subst ho;rw[Zbs,Yav] at he;rw[ZaJ (by omega)];rcases he with rfl | he
      ·rw[if_pos rfl]
      ·split
       ·rfl
       ·exact ((inL' listed hsz k).1 hk).2.2 q hq e he
     cases fuel with
     | zero =>rw[h1.1] at hjr;simp at hjr
     | succ f =>
      have h2:=h1.2 k hjr;unfold wpOp at h2;rw[eA,if_pos rfl,hq] at h2;simp only[Option.map_some,wn (Zen i q) _ (hok.grd k q hq),if_true] at h2
      replace h2:=h2.resolve_right λh=>hL h.2
      unfold Oper.wp at h2;have ex:execOp (a.put p.dst v).eval (Zen i q)=execOp a.eval q:=by
       have e0:execOp (a.put p.dst v).eval (Zen i q)=execOp (a.put p.dst v).eval q:=rfl;have ev:∀z,z≠d->(a.put p.dst v).eval (.tmp z)=a.eval (.tmp z):=λz hz=>by simp only[Act.eval,hpd,Act.put,Yat,Ybl];rw[if_neg (λh=>hz h.symm)]
       rw[e0];unfold execOp;rw[hqo];simp only[ev u hu,ev y hy]
      rw[ex] at h2;rcases Zx9 (P:=P) hqo a.eval w with ⟨w2,e⟩ | ⟨e,w2,e'⟩
      ·rw[e] at h2
       replace h2:wpAny P .any ⟨Zcd i k L⟩ Q f ((listed.setIfInBounds i true).setIfInBounds k true) ((a.put p.dst v).put q.dst undef) w2:=h2
       rw[show (a.put p.dst v).put q.dst undef=a.put p.dst v by rw[hqd];rfl] at h2;unfold wpOp;rw[eL,hq];simp only[wn q _ (hok.grd k q hq),if_true];left;unfold Oper.wp;rw[e];show wpAny P .any ⟨L⟩ Q (f+1) (listed.setIfInBounds k true) (a.put q.dst undef) w2;rw[show a.put q.dst undef=a by rw[hqd];rfl];have hszk:(listed.setIfInBounds k true).size=L.length:=by simpa using hsz
       have hik:i∈Region.ready .any ⟨L⟩ (listed.setIfInBounds k true):=by
        rw[inL' _ hszk];refine ⟨il,by rw[ZaJ (by omega),if_neg hne];exact hli,λo ho e he=>?_⟩;rw[hp] at ho;injection ho with ho;subst ho;rw[ZaJ (by omega)];split
        ·rfl
        ·exact ((inL' listed hsz k).1 hk).2.2 q hq e (hed e he)
       refine ⟨λhn=>?_,λm hm=>?_⟩
       ·rw[hn] at hik;simp at hik
       ·have hmi:m=i:=YaG λhmi=>by
         obtain ⟨ml,mu,me⟩:=(inL' _ hszk m).1 hm;have hmk:m≠k:=λe=>by
          rw[e,ZaJ (by omega),if_pos rfl] at mu;cases mu
         rw[ZaJ (by omega),if_neg hmk] at mu;rcases hall m L[m] (by simp[ml]) hmi hmk with h | h
         ·have:=((inL' listed hsz k).1 hk).2.2 q hq m h;rw[mu] at this;cases this
         ·have:=me L[m] (by simp[ml]) i h;rw[ZaJ (by omega),if_neg hne,hli] at this;cases this
        subst hmi;unfold wpOp;rw[eL,hp];simp only[wn p _ (hok.grd m p hp),if_true];left;unfold Oper.wp;rw[hv w2];show wpAny P .any ⟨L⟩ Q f ((listed.setIfInBounds k true).setIfInBounds m true) (a.put p.dst v) w2;refine ZtY hok f _ _ _ (by simpa using hsz) (by rw[ZaJ (by simp;omega),if_pos rfl]) ?_;rw[ZvG];exact h2
      ·rw[e'] at h2;cases e<;>first | exact (hQ _ _ _ h2).elim | exact h2.elim
    ·rw[hm w] at h1;exact h1.elim
  ·have hw:=wpOp_mono (K':=wpAny P .any ⟨L⟩ Q fuel (listed.setIfInBounds k true)) (λa w hx=>ih _ a w (by simpa using hsz) (by rw[ZaJ (by omega),if_neg (λh=>hkj h.symm)];exact h0) hx) (hA.2 k (rA listed hsz k (λh=>absurd h hkj) hk));refine (ZcB (j:=i) ho (.inr ?_) hg).1 hw;rw[eA,if_neg hkj];simp[hkl]
end
def ZvQ (i j:Nat) (eq:List Nat):Nat->List Oper->Bool
 | _,[]=>true
 | k,o :: l=>(Nat.beq k i || Nat.beq k j || inL eq k || inL (Zab o) i) && ZvQ i j eq (k+1) l
def Zo5 (i j:Nat) (L:List Oper):Bool :=
 !(Nat.beq i j) && L.all Zwa && (match L[i]?,L[j]? with
  | some p,some q=>(match p.op,p.dst,q.op,q.dst with
   | .extract (.tmp _) _,some d,.store _ (.tmp x) (.tmp y),none=>!(Nat.beq x d) && !(Nat.beq y d)
   | _,_,_,_=>false) && (Zab p).all (λe=>inL (Zab q) e) && ZvQ i j (Zab q) 0 L
  | _,_=>false)
theorem ZlQ (m:List Nat) (z:Nat):inL m z=true↔z∈m:=by
 induction m with
 | nil=>simp[inL]
 | cons y m ih =>
  rw[Yav,<- ih,show inL (y :: m) z=(bif Nat.beq y z then true else inL m z) from rfl];cases hb:Nat.beq y z with
  | true=>simp[Nat.eq_of_beq_eq_true hb]
  | false =>
   have:z≠y:=λh=>by rw[h,YaO] at hb;cases hb
   simp[this]
theorem Zp0 {i j:Nat} {eq:List Nat}:∀(l:List Oper) (k0:Nat),ZvQ i j eq k0 l=true->∀(k:Nat) (o:Oper),l[k]?=some o->k0+k≠i->k0+k≠j->k0+k∈eq\/i∈Zab o
 | [],_,_,k,o,h,_,_=>by simp at h
 | x :: l,k0,hc,k,o,h,h1,h2=>by
  simp only[ZvQ,Yaf,YaV] at hc
  match k with
  | 0 =>
   simp at h;subst h;rcases hc.1 with ((h3 | h3) | h3) | h3
   ·exact absurd (Yap h3) h1
   ·exact absurd (Yap h3) h2
   ·exact .inl ((ZlQ _ _).1 h3)
   ·exact .inr ((ZlQ _ _).1 h3)
  | k+1 =>have:=Zp0 l (k0+1) hc.2 k o (by simpa using h) (by omega) (by omega);rw[show k0+1+k=k0+(k+1) by omega] at this;exact this
theorem ZrP {i j:Nat} {L:List Oper} (h:Zo5 i j L=true):LateOk i j L:=by
 unfold Zo5 at h;simp only[Yaf,YaN] at h;obtain ⟨⟨h1,h2⟩,h3⟩:=h;split at h3
 ·rename_i p q hp hq;simp only[Yaf] at h3;obtain ⟨⟨h4,h5⟩,h6⟩:=h3;split at h4
  ·rename_i s x d t u y e1 e2 e3 e4;simp only[Yaf,YaN] at h4;refine ⟨λe=>?_,λk o hk=>?_,⟨p,d,s,x,hp,e2,e1⟩,⟨q,t,u,y,hq,e4,e3,λp' d' hp' hd'=>?_⟩,λp' q' hp' hq' e he=>?_,λk o q' hk hq' k1 k2=>?_⟩
   ·rw[e,YaO] at h1;cases h1
   ·have:=Ya7.1 h2 o (YaL hk);unfold Zwa at this;split at this
    ·assumption
    ·cases this
   ·rw[hp] at hp';injection hp' with hp';subst hp';rw[e2] at hd';injection hd' with hd';subst hd';exact ⟨λe=>(by rw[e,YaO] at h4;cases h4.1),λe=>(by rw[e,YaO] at h4;cases h4.2)⟩
   ·rw[hp] at hp';injection hp' with hp';subst hp';rw[hq] at hq';injection hq' with hq';subst hq';exact (ZlQ _ _).1 (Ya7.1 h5 e he)
   ·rw[hq] at hq';injection hq' with hq';subst hq';have:=Zp0 L 0 h6 k o hk (by omega) (by omega);rw[YaA] at this;exact this
  ·cases h4
 ·cases h3
section
variable {P:Program} {T:Tab} {F:FuncId->Bool} {C:Ctx} {n:Nat}
theorem Zux [CA] (hT:TabOk P T) (hF:∀g,F g=true->fnOk P g=true) {id:Nat} {ops:Array Oper} (S:List Nat) (hs:∀k∈ZbC (.region id ops true),k < n) (hm:∀k∈ZbC (.region id ops true),inL S k=true)
  {env:Env} {hh:Zad} {df:List Deferred} {Q:Post} {pp:Option Nat} (h:ZsB P T F C.G ops Q pp env hh df) {a:Act} {w:World} (hr:Rel C n ⟨env,hh,df⟩ a w) :
  wpAny P .any ops (λe a' w'=>Keeps S a a'/\∃x st',Q x st'/\XOk e x st' a' w' C n) ops.size (Array.replicate ops.size false) a { w with drawn:=w.drawn+1 }:=by
 have hatf:∀pp,Zfo pp ops ops.toList [] []=true->∀(i:Nat) (o:Oper),ops.toList[i]?=some o->(∀e∈Zab o,e < i)/\∀(k:Nat) (p:Oper),(ops.toList.take i)[k]?=some p->Zdk pp ops o p=true->Nat.testBit (ZaI (Zax (ops.toList.take i)) (Zab o)) k=true:=λpp hchk i o hi=>by have:=ZhR ops.toList [] (by simpa [Zax] using hchk) i o hi;simpa using this
 have hrd:Rel C n ⟨env,hh,df⟩ a { w with drawn:=w.drawn+1 }:=by obtain ⟨h1,h2,β,V,h3,h4⟩:=hr;exact ⟨h1,h2,β,V,h3.drew _,λs=>Zaa.mono (w:=w) (w':={ w with drawn:=w.drawn+1 }) (V:=V) (LeH.refl hh β) (λk hk=>⟨hk,rfl⟩) _ _ (h4 s)⟩
 have hrep:∀i,(Array.replicate ops.size false).getD i false=decide (i < ([]:List Oper).length):=λi=>by rw[Yat,Ya0];split<;>simp
 unfold ZsB at h;cases hsg:ZyT pp with
 | false =>
  rw[hsg] at h;obtain ⟨hchk,hv⟩:=h;refine Zjf hT hF S hs hm (Qp:=λdp=>∀(e:Env) (h:Zad),Q (.pan dp) ⟨e,h,df⟩) (hatf pp hchk) [] ops.toList [] (by simp) (by simpa [Zax,ZaX] using hv) (λo ho=>?_) (λi o hi hlt=>?_) (λdp e h' ch a' w' hq hx hk=>⟨hk,.pan dp,_,hq e h',hx⟩) (λfuel listed a' w' st hK hr hk hsz hl _=>?_) ops.size (Array.replicate ops.size false) a _ (by simp) (YaB YbL (by simp)) hrep hrd (Keeps.refl _ _)
  ·simp at ho
  ·have:=(Yaa.1 hi).1;simp at hlt;simp at this;omega
  ·have hrd0:Region.ready .any ops listed=[]:=by
    simp only[Region.ready,Ycb,YaZ];intro i hi;have:=hl i;rw[decide_eq_true (by simpa using hi)] at this;have hlt:listed.getD i true=true:=by rw[Yat] at this ⊢;rw[YaI (by omega)] at this ⊢;exact this
    rw[hlt];simp
   obtain ⟨st1,hr1,hK1⟩:=Zct ops.toList 0 (by simp) st hr hK;exact wpAny_done hrd0 ⟨hk,.normal,st1,hK1,hr1⟩ fuel
 | true =>rw[hsg] at h;obtain ⟨ms,hchk,hv⟩:=h;simp only[Yaf] at hchk;have hsc:=Zjg (ks:=Zhf 0 ms) ops.toList [] 0 (by simpa [Zax] using hchk.2) rfl;refine Zkx hT hF S hs hm (Q:=Q) (K:=Q .normal) (a:=a) (Zhf 0 ms) (hatf (ZvI pp) hchk.1) (λi o hi=>by have:=hsc i o hi;simpa using this) (λx st e a' w' hq hx hk=>⟨hk,x,st,by cases x<;>exact hq,hx⟩) ms ops.toList [] env hh df (by simp) (λk hk=>hk) hv ops.size (Array.replicate ops.size false) a _ (by simp) (YaB YbL (by simp)) hrep hrd (Keeps.refl _ _)
theorem Zl8 (hT:TabOk P T) (hF:∀g,F g=true->fnOk P g=true) {id:Nat} {ops:Array Oper} (S:List Nat) (hs:∀k∈ZbC (.region id ops true),k < n) (hm:∀k∈ZbC (.region id ops true),inL S k=true)
  {env:Env} {hh:Zad} {df:List Deferred} {Q:Post} {pp:Option Nat} (h:Zxi P T F C.G ops Q pp env hh df) {a:Act} {w:World} (hr:Rel C n ⟨env,hh,df⟩ a w) :
  wpAny P .any ops (λe a' w'=>Keeps S a a'/\∃x st',Q x st'/\XOk e x st' a' w' C n) ops.size (Array.replicate ops.size false) a { w with drawn:=w.drawn+1 }:=by
 unfold Zxi at h;cases ha:ZyU pp with
 | true =>rw[ha] at h;obtain ⟨t,hc,h⟩:=h;simp only[Yaf] at hc;exact ZtE hT hF (id:=id) S hs hm hc.1 (.inl ⟨rfl,hc.2⟩) h hr
 | false =>rw[ha] at h;exact @Zux P T F C n (CA.mk (caB pp) (caF pp) (caM pp) (caS pp)) hT hF id ops S hs hm env hh df Q pp h a w hr
def ZAL:Option Nat->Bool
 | some p=>Nat.ble 100000 p
 | none=>false
def Zz5:Option Nat->Option Nat
 | some p=>some (p - 100000)
 | none=>none
def ZCA:Option Nat->Bool
 | some p=>Nat.ble 200000 p
 | none=>false
def ZCR:Option Nat->Option Nat
 | some p=>some (p - 200000)
 | none=>none
def ZBJ (P:Program) (T:Tab) (F:FuncId->Bool) (G:Gl) (ops:Array Oper) (Q:Post) (pp:Option Nat) (env:Env) (h:Zad) (df:List Deferred):Prop :=
 bif ZCA pp then ∃i j:Nat,Zo5 i j ops.toList=true/\Zxi P T F G ⟨Zcd i j ops.toList⟩ (Zwb Q) (ZCR pp) env h df
 else bif ZAL pp then ∃i:Nat,(Nat.ble (i+2) ops.toList.length && Zz7 i 0 ops.toList)=true/\Zxi P T F G ⟨Ze5 i i ops.toList⟩ Q (Zz5 pp) env h df/\Zxi P T F G ⟨Zev i i ops.toList⟩ Q (Zz5 pp) env h df
 else ZBw P T F G ops Q pp env h df
theorem Zpl (hT:TabOk P T) (hF:∀g,F g=true->fnOk P g=true) (hM:P.follows .mixedOrders=true) {id:Nat} {ops:Array Oper} (S:List Nat) (hs:∀k∈ZbC (.region id ops true),k < n) (hm:∀k∈ZbC (.region id ops true),inL S k=true)
  {env:Env} {hh:Zad} {df:List Deferred} {Q:Post} (h:∃pp:Option Nat,ZBJ P T F C.G ops Q pp env hh df) {a:Act} {w:World} (hr:Rel C n ⟨env,hh,df⟩ a w) :
  (Code.region id ops true).wp P (λe a' w'=>Keeps S a a'/\∃x st',Q x st'/\XOk e x st' a' w' C n) a w:=by
 obtain ⟨pp,h⟩:=h;unfold ZBJ at h;cases hlt:ZCA pp with
 | true =>
  rw[hlt] at h;obtain ⟨i,j,hc,h1⟩:=h;have mA:ZbC (.region id ⟨Zcd i j ops.toList⟩ true)=ZbC (.region id ops true):=Znm _ _ _;have a1:=Zl8 hT hF (id:=id) S (by rw[mA];exact hs) (by rw[mA];exact hm) h1 hr;have hlA:(Zcd i j ops.toList).length=ops.size:=by rw[Zg1];simp
  rw[show (⟨Zcd i j ops.toList⟩:Array Oper).size=ops.size from hlA] at a1;have hz:∀k,(Array.replicate ops.size false).getD k false=false:=λk=>by rw[Yat,Ya0];split<;>simp
  have a2:=ZyP (ZrP hc) (by rintro ch a' w' ⟨_,x,st',hq,hx⟩;cases x<;>first | exact hq.elim | exact hx.elim) (by rintro ⟨a',w',_,x,st',hq,hx⟩;cases x<;>exact hx.elim) ops.size _ a _ (by simp) (hz j) a1;refine Code.wp_mono ?_ (wp_region_any hM a2);rintro e a' w' ⟨hk,x,st',hq,hx⟩;exact ⟨hk,x,st',by cases x<;>first | exact hq | exact hq.elim,hx⟩
 | false =>
 rw[hlt] at h;cases hb:ZAL pp with
 | false=>rw[hb] at h;exact Zk2 hT hF hM S hs hm ⟨pp,h⟩ hr
 | true =>
  rw[hb] at h;obtain ⟨i,hc,h1,h2⟩:=h;simp only[Yaf] at hc;have hi:i+1 < ops.toList.length:=by have:=Yaw hc.1;omega
  refine wp_region_any hM ?_;have hlA:(Ze5 i i ops.toList).length=ops.size:=by rw[Ziz];simp
  have hlB:(Zev i i ops.toList).length=ops.size:=by rw[Ziy];simp
  have mA:ZbC (.region id ⟨Ze5 i i ops.toList⟩ true)=ZbC (.region id ops true):=ZpL _ _ _;have a1:=Zl8 hT hF (id:=id) S (by rw[mA];exact hs) (by rw[mA];exact hm) h1 hr;have a2:=Zl8 hT hF (id:=id) S (λk hk=>hs k (Zlj _ _ _ k hk)) (λk hk=>hm k (Zlj _ _ _ k hk)) h2 hr;rw[show (⟨Ze5 i i ops.toList⟩:Array Oper).size=ops.size from hlA] at a1;rw[show (⟨Zev i i ops.toList⟩:Array Oper).size=ops.size from hlB] at a2;have hz:∀k,(Array.replicate ops.size false).getD k false=false:=λk=>by rw[Yat,Ya0];split<;>simp
  exact Zz4 hi hc.2 ops.size _ a _ (by simp) (hz i) (hz (i+1)) a1 a2
end
def ZdR:Code->Nat
 | .region id _ _=>id
 | .seq x _=>ZdR x
 | .block _ x=>ZdR x
 | .loop x=>ZdR x
 | _=>1000000
def brJ (J:List Nat) (G:Gl) (n:Nat) (x:Code) (v:St->Prop) (st:St):Prop :=
 match x with
 | .seq y _=>bif inL J (1000000+ZdR y) then ZcY G n v st else v st
 | .region id _ _=>bif inL J (1000000+id) then ZcY G n v st else v st
 | _=>v st
def vcS (J:List Nat) (P:Program) (T:Tab) (F:FuncId->Bool) (G:Gl) (n:Nat):Code->St->Post->Prop
 | .skip,st,Q=>Q .normal st
 | .region _ ops false,st,Q=>ZxU P T F G ops (Q .normal) Q ops.toList st
 | .region _ ops true,⟨env,h,df⟩,Q=>∃pp:Option Nat,ZBJ P T F G ops Q pp env h df
 | .seq x y,st,Q=>vcS J P T F G n x st (λe st'=>match e with | .normal=>bif inL J (ZdR y) then ZcY G n (λst1=>vcS J P T F G n y st1 Q) st' else vcS J P T F G n y st' Q | e=>Q e st')
 | .cond c x y,st,Q=>Zfs (sv G st c) (brJ J G n x (vcS J P T F G n x · Q) st) (brJ J G n y (vcS J P T F G n y · Q) st)
 | .block id x,st,Q=>vcS J P T F G n x st (λe st'=>match e with | .exit i=>bif Nat.beq i id then Q .normal st' else Q (.exit i) st' | e=>Q e st')
 | .loop x,st,Q=>ZzN G n (vcS J P T F G n x) (ZbC x) st Q
 | .exit id,st,Q=>Q (.exit id) st
 | .ret,st,Q=>Q .ret st
 | _,_,_=>False
section
variable {P:Program} {T:Tab} {F:FuncId->Bool} {C:Ctx} {n:Nat}
theorem ZdF (J:List Nat) (hT:TabOk P T) (hF:∀g,F g=true->fnOk P g=true) (hM:P.follows .mixedOrders=true):∀(c:Code) (S:List Nat),(∀k∈ZbC c,k < n)->(∀k∈ZbC c,inL S k=true)->∀(C:Ctx) (st:St) (a:Act) (w:World) (Q:Post),vcS J P T F C.G n c st Q->Rel C n st a w ->
  c.wp P (λe a' w'=>Keeps S a a'/\∃x st',Q x st'/\XOk e x st' a' w' C n) a w:=by
 intro c
 induction c with
 | skip=>intro S _ _ C st a w Q h hr;exact wp_skip ⟨Keeps.refl _ _,.normal,st,h,hr⟩
 | region id ops draw =>
  intro S hs hm C st a w Q h hr;cases draw with
  | true =>obtain ⟨env,hp,df⟩:=st;exact Zpl hT hF hM S hs hm h hr
  | false =>
   refine wp_region_list (Zna hT hF (K:=Q .normal) (Q:=Q) (a0:=a) (S:=S) (λst a w hq hr hk=>⟨hk,.normal,st,hq,hr⟩) (λd st ch a w hq hx hk=>⟨hk,.pan d,st,hq,hx⟩) ops.toList (λo ho d hd=>?_) st a w h hr (Keeps.refl _ _));have:d∈ZbC (.region id ops false):=by simp only[ZbC,YaP];exact ⟨o,ho,hd⟩
   exact ⟨hs d this,hm d this⟩
 | seq x y ihx ihy =>
  intro S hs hm C st a w Q h hr;simp only[ZbC,Yao] at hs hm;refine wp_seq (Code.wp_mono ?_ (ihx S (λk hk=>hs k (.inl hk)) (λk hk=>hm k (.inl hk)) C st a w _ h hr));rintro e a' w' ⟨hk,x,st',hq,hx⟩;cases e with
  | normal =>
   cases x<;>try exact hx.elim
   have hq':∃st1,vcS J P T F C.G n y st1 Q/\Rel C n st1 a' w':=by
    have hq:(bif inL J (ZdR y) then ZcY C.G n (λst1=>vcS J P T F C.G n y st1 Q) st' else vcS J P T F C.G n y st' Q):=hq;cases hb:inL J (ZdR y) with
    | true=>rw[hb] at hq;obtain ⟨st1,ht,hk1⟩:=hq;exact ⟨st1,hk1,ht C a' w' rfl hx⟩
    | false=>rw[hb] at hq;exact ⟨st',hq,hx⟩
   obtain ⟨st1,hq1,hx1⟩:=hq';refine Code.wp_mono ?_ (ihy S (λk hk=>hs k (.inr hk)) (λk hk=>hm k (.inr hk)) C st1 a' w' Q hq1 hx1);rintro e a'' w'' ⟨hk',rest⟩;exact ⟨hk.trans hk',rest⟩
  | exit i=>cases x<;>first | exact hx.elim | exact ⟨hk,_,st',hq,hx⟩
  | ret=>cases x<;>first | exact hx.elim | exact ⟨hk,_,st',hq,hx⟩
  | panic ch=>cases x<;>first | exact hx.elim | exact ⟨hk,_,st',hq,hx⟩
  | goto l=>cases x<;>exact hx.elim
  | outgrown=>cases x<;>exact hx.elim
 | cond c x y ihx ihy =>
  intro S hs hm C st a w Q h hr;simp only[ZbC,Yao] at hs hm;obtain ⟨hsz,hdf,β,V,hrel,he⟩:=hr;obtain ⟨b,hv,ht,hf⟩:=Zfs.use h (he.eval hrel.gl c);refine wp_cond hv ?_;have turned:∀{z:Code},brJ J C.G n z (vcS J P T F C.G n z · Q) st->∃st1,vcS J P T F C.G n z st1 Q/\Rel C n st1 a w:=fun {z} h=>by
   have stay:vcS J P T F C.G n z st Q->∃st1,vcS J P T F C.G n z st1 Q/\Rel C n st1 a w:=λh=>⟨st,h,hsz,hdf,β,V,hrel,he⟩;have turn:∀b:Bool,(bif b then ZcY C.G n (vcS J P T F C.G n z · Q) st else vcS J P T F C.G n z st Q)->∃st1,vcS J P T F C.G n z st1 Q/\Rel C n st1 a w:=λb h=>by
    cases b with
    | true=>obtain ⟨st1,ht,hk1⟩:=h;exact ⟨st1,hk1,ht C a w rfl ⟨hsz,hdf,β,V,hrel,he⟩⟩
    | false=>exact stay h
   cases z<;>first | exact stay h | exact turn _ h
  cases b with
  | true=>obtain ⟨st1,k1,k2⟩:=turned (ht rfl);exact ihx S (λk hk=>hs k (.inl hk)) (λk hk=>hm k (.inl hk)) C st1 a w Q k1 k2
  | false=>obtain ⟨st1,k1,k2⟩:=turned (hf rfl);exact ihy S (λk hk=>hs k (.inr hk)) (λk hk=>hm k (.inr hk)) C st1 a w Q k1 k2
 | block id x ih =>
  intro S hs hm C st a w Q h hr;refine wp_block (Code.wp_mono ?_ (ih S hs hm C st a w _ h hr));rintro e a' w' ⟨hk,x,st',hq,hx⟩;cases e with
  | exit i =>
   cases x<;>try exact hx.elim
   obtain ⟨rfl,hx⟩:=hx;simp only[Exit.inBlock];by_cases hi:i=id
   ·subst hi;rw[if_pos rfl];simp only[YaO,cond_true] at hq;exact ⟨hk,_,st',hq,hx⟩
   ·rw[if_neg hi];have:Nat.beq i id=false:=ZcR hi;simp only[this,cond_false] at hq;exact ⟨hk,_,st',hq,rfl,hx⟩
  | normal=>cases x<;>first | exact hx.elim | exact ⟨hk,_,st',hq,hx⟩
  | ret=>cases x<;>first | exact hx.elim | exact ⟨hk,_,st',hq,hx⟩
  | panic ch=>cases x<;>first | exact hx.elim | exact ⟨hk,_,st',hq,hx⟩
  | goto l=>cases x<;>exact hx.elim
  | outgrown=>cases x<;>exact hx.elim
 | loop x ih =>
  intro S hs hm C st a w Q h hr;obtain ⟨ι,I,μ,hstart,hround⟩:=h;obtain ⟨hsz,hdf,β,V,hrel,he⟩:=hr
  let C':Ctx:=⟨w,λk=>∃i o,st.h[i]?=some o/\o.live=true/\Bk o (β i) k,V,C.G⟩
  have hrel':RelD C' st.h β V w:=ZdD hrel;have hr':Rel C' n st a w:=⟨hsz,hdf,β,V,hrel',he⟩;have back:∀e y st2 a2 w2,XOk e y st2 a2 w2 C' n->XOk e y st2 a2 w2 C n:=by
   intro e y st2 a2 w2 hx;have key:∀st2 a2 w2,Rel C' n st2 a2 w2->Rel C n st2 a2 w2:=λst2 a2 w2 ⟨h1,h2,β2,V2,h3,h4⟩=>⟨h1,h2,β2,V2,ZkA hrel h3,h4⟩;cases e<;>cases y<;>try exact hx.elim
   ·exact key _ _ _ hx
   ·exact ⟨hx.1,key _ _ _ hx.2⟩
   ·exact key _ _ _ hx
   ·obtain ⟨t,u,h0,h1,h2,β2,V2,h3,h4,h5⟩:=hx;exact ⟨t,u,h0,h1,h2,β2,V2,ZkA hrel h3,h4,h5⟩
  have hbase:∀a',Keeps (ZbC x) a a'->ZBH C' st (ZbC x) a':=λa' hk=>⟨λk hv ⟨i,o,h1,h2,h3⟩=>hrel.vout i o k h1 h2 h3 hv,hrel.vlt,a,β,he,hk⟩
  let J:ι->Act->World->Prop:=λi a' w'=>∃st1,I i st1/\Rel C' n st1 a' w'/\Keeps (ZbC x) a a'/\Keeps S a a'
  obtain ⟨i0,st0,hr0,hI0⟩:=hstart C' a w rfl hr'
  classical
  have least:∀(a':Act) (w':World),(∃i,J i a' w')->∃i,J i a' w'/\∀j,J j a' w'->μ i<=μ j:=by
   intro a' w' hex;have wf:∀m,∀i,μ i=m->J i a' w'->∃i,J i a' w'/\∀j,J j a' w'->μ i<=μ j:=by
    intro m
    induction m using Nat.strongRecOn with
    | _ m ihm =>
     intro i hi hJ;by_cases hall:∀j,J j a' w'->μ i<=μ j
     ·exact ⟨i,hJ,hall⟩
     ·have ⟨j,hj⟩:=Classical.not_forall.1 hall;have ⟨hJj,hlt⟩:=Classical.not_imp.1 hj;exact ihm (μ j) (by omega) j rfl hJj
   obtain ⟨i,hi⟩:=hex;exact wf _ i rfl hi
  let ν:Act->World->Nat:=λa' w'=>if hex:∃i,J i a' w' then μ (Classical.choose (least a' w' hex)) else 0
  have hν:∀a' w',(∃i,J i a' w')->∃i,J i a' w'/\ν a' w'=μ i:=by intro a' w' hex;refine ⟨Classical.choose (least a' w' hex),(YbX (least a' w' hex)).1,?_⟩;simp only[ν,dif_pos hex]
  have hνle:∀a' w' j,J j a' w'->ν a' w'<=μ j:=by intro a' w' j hj;have hex:∃i,J i a' w':=⟨j,hj⟩;simp only[ν,dif_pos hex];exact (YbX (least a' w' hex)).2 j hj
  refine wp_loop (λa' w'=>∃i,J i a' w') ν ⟨i0,st0,hI0,hr0,Keeps.refl _ _,Keeps.refl _ _⟩ ?_;intro a1 w1 hex;obtain ⟨i,⟨st1,hI,hr1,hk1,hk2⟩,hνi⟩:=hν a1 w1 hex;have hb:=ih (ZbC x) hs (λk hk=>ZbY.2 hk) C' st1 a1 w1 _ (hround i st1 hI) hr1;refine Code.wp_mono ?_ hb;rintro e a2 w2 ⟨hk,y,st2,hq,hx⟩;have hkS:Keeps S a1 a2:=λk hk'=>hk k (by
   cases h:inL (ZbC x) k with
   | false=>rfl
   | true=>rw[hm k (ZbY.1 h)] at hk';cases hk')
  cases e with
  | normal =>
   cases y<;>try exact hx.elim
   obtain ⟨i',st3,hr3,hI3,hlt⟩:=hq C' a2 w2 rfl hx (hbase a2 (hk1.trans hk));have hJ:J i' a2 w2:=⟨st3,hI3,hr3,hk1.trans hk,hk2.trans hkS⟩;refine ⟨⟨i',hJ⟩,?_⟩;have:=hνle a2 w2 i' hJ;rw[hνi];omega
  | exit j=>cases y<;>first | exact hx.elim | exact ⟨hk2.trans hkS,_,st2,hq,back _ _ _ _ _ hx⟩
  | ret=>cases y<;>first | exact hx.elim | exact ⟨hk2.trans hkS,_,st2,hq,back _ _ _ _ _ hx⟩
  | panic ch=>cases y<;>first | exact hx.elim | exact ⟨hk2.trans hkS,_,st2,hq,back _ _ _ _ _ hx⟩
  | goto l=>cases y<;>exact hx.elim
  | outgrown=>cases y<;>exact hx.elim
 | exit id=>intro S _ _ C st a w Q h hr;exact wp_exit ⟨Keeps.refl _ _,.exit id,st,h,rfl,hr⟩
 | ret=>intro S _ _ C st a w Q h hr;exact wp_ret ⟨Keeps.refl _ _,.ret,st,h,hr⟩
 | _=>intro S _ _ C st a w Q h hr;exact h.elim
end
section
variable {P:Program} {T:Tab} {F:FuncId->Bool} {G:Gl}
theorem ZhQ (J:List Nat) (hT:TabOk P T) (hF:∀g,F g=true->fnOk P g=true) (hM:Mix P) {f:FuncId} {fn:Func} {c:Code} (hf:P.funcs[f]?=some fn) (hb:fn.body=some c) (N:Nat) (hN:fn.ntmps=N) (hs:Ziq N (ZbC c)=true) (rs:List ResultVar) (hrs:fn.results.toList=rs)
  (args:List D) (hal:Nat.ble args.length N=true) (hin:Zad) (ptrs:List Nat) (hpa:ptrs.map (ZeO args)=Zij 0 ptrs) (hpb:Zfv hin 0 ptrs=true) (hpm:ptrs.all (λk=>!inL (ZbC c) k)=true)
  (m:Nat) (nms:List (Option Value)) (htg:Zgd hin m ptrs.length nms) (Q:Out->Prop) (h:vcS J P T F G N c ⟨ZeO args,hin,[]⟩ (ZCo T G rs ptrs hin m nms Q)):CTH P G f (ptrs.length+nms.length) hin args Q:=by subst hN;refine Zuw hT hf hb fn.ntmps rfl hs rs hrs args hal hin ptrs hpa hpb hpm m nms htg Q (λC a w hG hr=>?_);subst hG;exact ZdF J hT hF hM.ok c (ZbC c) (ZcT hs) (λk hk=>ZbY.2 hk) C _ a w _ h hr
theorem ZqM (J:List Nat) (hT:TabOk P T) (hF:∀g,F g=true->fnOk P g=true) (hM:Mix P) {f:FuncId} {fn:Func} {c:Code} (hf:P.funcs[f]?=some fn) (hb:fn.body=some c) (N:Nat) (hN:fn.ntmps=N) (hs:Ziq N (ZbC c)=true) (rs:List ResultVar) (hrs:fn.results.toList=rs)
  (args:List D) (hal:Nat.ble args.length N=true) (Q:Out->Prop) (h:vcS J P T F G N c ⟨ZeO args,[],[]⟩ (Fin T rs Q)):CT P G f args Q:=by
 subst hN;subst hrs;intro w V vals hV hG hargs;have hlen:=hargs.len;have hal:=Yaw hal;refine calls_of_wp hf hb ?_;have hnth:∀(ds:List D) (vs:List Value),Zac [] (λ_=>undef) V w ds vs->∀i,Zaa [] (λ_=>undef) V w (nth .any ds i) (vs.getD i undef):=by
  intro ds
  induction ds with
  | nil=>intro vs _ i;simp only[nth,Zaa]
  | cons d ds ih =>
   intro vs h i;simp only[Zac] at h;obtain ⟨v,us,rfl,h1,h2⟩:=h;cases i with
   | zero=>simpa [nth] using h1
   | succ i=>simpa [nth] using ih us h2 i
 have hr:Rel ⟨w,λ_=>False,V,G⟩ fn.ntmps ⟨ZeO args,[],[]⟩ { tmps:=(⟨vals⟩:Array Value)++Array.replicate (fn.ntmps - (⟨vals⟩:Array Value).size) undef,defers:=[] } w:=by
  refine ⟨by simp;omega,rfl,λ_=>undef,V,ZjS hV hG,λi=>?_⟩;have h1:=hnth args vals hargs i;have h2:((⟨vals⟩:Array Value)++Array.replicate (fn.ntmps - (⟨vals⟩:Array Value).size) undef).getD i undef=vals.getD i undef:=by
   rw[Yat,Yal];by_cases hi:i < vals.length
   ·rw[YbB (by simpa using hi)];simp
   ·rw[Ybz (by simp;omega),Ybs (by omega)];rw[Ya0];split<;>rfl
  rw[h2];exact h1
 have hlt:=ZcT hs;refine Code.wp_mono ?_ (ZdF J hT hF hM.ok c (ZbC c) hlt (λk hk=>ZbY.2 hk) ⟨w,λ_=>False,V,G⟩ _ _ w _ h hr);rintro e a' w' ⟨_,x,st',hq,hx⟩;have ret:∀{st':St},Rel ⟨w,λ_=>False,V,G⟩ fn.ntmps st' a' w'->(match Zms T st' fn.results.toList with | some ds=>Zb5 ds λds=>st'.df=[]/\Zbk Q st'.h (Zf3 ds) | none=>False) ->
   a'.defers=[]/\∃v,(results fn a'.tmps).run P w'=.ok v w'/\Zva G Q V w (.returned v) w':=by
  rintro st' ⟨_,hdf,β,V',hrel,he⟩ hq;cases hres:Zms T st' fn.results.toList with
  | none=>rw[hres] at hq;exact hq.elim
  | some ds =>rw[hres] at hq;simp only[ZaZ] at hq;obtain ⟨hd0,src,d',h',ht,hQ⟩:=hq;obtain ⟨v,hv1,hv2⟩:=ZcC hT hrel he hres;obtain ⟨h1,h2⟩:=ht.use hrel hv2;simp only[Zac] at h2;obtain ⟨v',us,e,h3,_⟩:=h2;injection e with e1 e2;subst e1;exact ⟨hdf.trans hd0,v,hv1,d',h',_,_,hQ,h1,h3⟩
 cases e with
 | normal =>
  cases x<;>try exact hx.elim
  exact ret hx hq
 | ret =>
  cases x<;>try exact hx.elim
  exact ret hx hq
 | panic ch =>
  cases x<;>try exact hx.elim
  obtain ⟨t,u,hch,hsz,hdf,β,V',hrel,he,hd⟩:=hx;obtain ⟨hd0,d',ht,hQ⟩:=hq;obtain ⟨h1,h2⟩:=ht.use hrel (vs:=[.iface t u]) (by simp only[Zac];exact ⟨_,_,rfl,hd,rfl⟩);simp only[Zac] at h2;obtain ⟨v',us,e,h3,_⟩:=h2;injection e with e1 e2;subst e1;exact ⟨hdf.trans hd0,d',t,u,_,_,hch,hQ,h1,h3⟩
 | exit i=>cases x<;>first | exact hx.elim | exact hq.elim
 | goto l=>cases x<;>exact hx.elim
 | outgrown=>cases x<;>exact hx.elim
def Znu (J:List Nat) (P:Program) (T:Tab) (F:FuncId->Bool) (G:Gl) (n:Nat) (y:Code) (Q:Post):Post
 | .normal,st'=>Hold (vcS J P T F G n y st' Q)
 | e,st'=>Q e st'
theorem ZBn {J:List Nat} {n:Nat} {v:St->Prop} {st:St} (h:v st):brJ J G n .skip v st:=h
theorem ZoA {J:List Nat} {n:Nat} {x y:Code} {st:St} {Q:Post} (hJ:inL J (ZdR y)=false) (h:vcS J P T F G n x st (Znu J P T F G n y Q)):vcS J P T F G n (.seq x y) st Q:=by
 have e:Znu J P T F G n y Q=(λe st'=>match e with | .normal=>bif inL J (ZdR y) then ZcY G n (λst1=>vcS J P T F G n y st1 Q) st' else vcS J P T F G n y st' Q | e=>Q e st'):=by
  funext e st';cases e with
  | normal=>rw[hJ];exact propext ⟨Hold.out,Hold.mk⟩
  | _=>rfl
 rw[e] at h;exact h
theorem ZAK {J:List Nat} {n:Nat} {x y:Code} {env:Env} {h:Zad} {df:List Deferred} {Q:Post} {ι:Type} (hJ:inL J (ZdR y)=false) (val:ι->List (Nat × D)) (hpI:ι->Zad) (Inv:ι->Prop)
  (tail:∀(e0:Env) (i:ι),Inv i->vcS J P T F G n y ⟨Env.many e0 (val i),hpI i,df⟩ Q)
  (head:∀Rd:St->Prop,(∀(i:ι) (e:Env),Zsl e (val i)->Inv i->Rd ⟨e,hpI i,df⟩)->vcS J P T F G n x ⟨env,h,df⟩ (Ze8 Rd Q)) :
  vcS J P T F G n (.seq x y) ⟨env,h,df⟩ Q:=by
 have hh:=head (λst'=>vcS J P T F G n y st' Q) (λi e ha hi=>by
  have:=tail e i hi;rw[Zfe ha] at this;exact this)
 have e:Ze8 (λst'=>vcS J P T F G n y st' Q) Q=(λe st'=>match e with | .normal=>bif inL J (ZdR y) then ZcY G n (λst1=>vcS J P T F G n y st1 Q) st' else vcS J P T F G n y st' Q | e=>Q e st'):=by
  funext e st';cases e with
  | normal=>rw[hJ];rfl
  | _=>rfl
 rw[e] at hh;exact hh
end
end Go.Dm
