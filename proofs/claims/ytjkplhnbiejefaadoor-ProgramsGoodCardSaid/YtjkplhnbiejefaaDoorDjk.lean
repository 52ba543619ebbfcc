/-
  The second engine: two variables made side by side in a region that draws its order. Each order of the two is looked at by itself. It holds of every program.
-/
import Derived.Test.YtjkplhnbiejefaaDoorDlib
namespace Go.Dm
open Go Go.Eng Go.RowKit
def plainOp:Op→Bool
 | .alloc _ | .load _ _ | .store _ _ _ | .fieldAddr _ _ _ | .indexAddr _ _ _ | .move _ | .assign _=>true
 | _=>false
def nogrd (o:Oper):Bool:=match o.guard with
 | none=>true
 | some _=>false
def lateE (i:Nat) (o:Oper):Oper:={ o with after:=⟨{ on:=i,ground:=.data } :: o.after.toList⟩ }
def twoA (k:Nat):Nat→List Oper→List Oper
 | 0,x :: y :: l=>x :: lateE k y :: l
 | n+1,x :: l=>x :: twoA k n l
 | _,l=>l
def twoB (k:Nat):Nat→List Oper→List Oper
 | 0,x :: y :: l=>y :: lateE k x :: l
 | n+1,x :: l=>x :: twoB k n l
 | _,l=>l
def symE (i:Nat):Nat→List Oper→Bool
 | _,[]=>true
 | j,o :: l=>nogrd o && plainOp o.op && (bif Nat.beq j i || Nat.beq j (i+1) then !(inL (edgesOf o) i) && !(inL (edgesOf o) (i+1)) else inL (edgesOf o) i == inL (edgesOf o) (i+1)) && symE i (j+1) l
theorem edges_lateE (i:Nat) (o:Oper):edgesOf (lateE i o)=i :: edgesOf o:=rfl
theorem twoA_at (k:Nat):∀ (n:Nat) (l:List Oper),n+1 < l.length→∀ j,(twoA k n l)[j]?=if j=n+1 then (l[j]?).map (lateE k) else l[j]?
 | 0,[],h,_=>by simp at h
 | 0,[_],h,_=>by simp at h
 | 0,x :: y :: l,_,j=>by
  match j with
  | 0=>simp[twoA]
  | 1=>simp[twoA]
  | j+2=>simp[twoA]
 | n+1,[],h,_=>by simp at h
 | n+1,x :: l,h,j=>by
  match j with
  | 0=>simp[twoA]
  | j+1 =>
   have:=twoA_at k n l (by simpa using h) j
   simp only[twoA,List.getElem?_cons_succ,this]
   by_cases hj:j=n+1
   ·rw[if_pos hj,if_pos (by omega)]
   ·rw[if_neg hj,if_neg (by omega)]
theorem twoB_at (k:Nat):∀ (n:Nat) (l:List Oper),n+1 < l.length→(twoB k n l)[n]?=l[n+1]?∧(twoB k n l)[n+1]?=(l[n]?).map (lateE k)∧∀ j,j≠n→j≠n+1→(twoB k n l)[j]?=l[j]?
 | 0,[],h=>by simp at h
 | 0,[_],h=>by simp at h
 | 0,x :: y :: l,_=>⟨by simp[twoB],by simp[twoB],fun j h0 h1=>by
  match j,h0,h1 with
  | j+2,_,_=>simp[twoB]⟩
 | n+1,[],h=>by simp at h
 | n+1,x :: l,h=>by
  obtain ⟨h1,h2,h3⟩:=twoB_at k n l (by simpa using h)
  refine ⟨by simp only[twoB,List.getElem?_cons_succ];exact h1,by simp only[twoB,List.getElem?_cons_succ];exact h2,fun j hj0 hj1=>?_⟩
  match j with
  | 0=>simp[twoB]
  | j+1=>simp only[twoB,List.getElem?_cons_succ];exact h3 j (by omega) (by omega)
theorem twoA_len (k:Nat):∀ (n:Nat) (l:List Oper),(twoA k n l).length=l.length
 | 0,[]=>rfl
 | 0,[_]=>rfl
 | 0,_ :: _ :: _=>rfl
 | _+1,[]=>rfl
 | n+1,_ :: l=>by simp only[twoA,List.length_cons,twoA_len k n l]
theorem twoB_len (k:Nat):∀ (n:Nat) (l:List Oper),(twoB k n l).length=l.length
 | 0,[]=>rfl
 | 0,[_]=>rfl
 | 0,_ :: _ :: _=>rfl
 | _+1,[]=>rfl
 | n+1,_ :: l=>by simp only[twoB,List.length_cons,twoB_len k n l]
theorem twoA_dst (k:Nat):∀ (n:Nat) (l:List Oper),(twoA k n l).filterMap (·.dst)=l.filterMap (·.dst)
 | 0,[]=>rfl
 | 0,[_]=>rfl
 | 0,x :: y :: l=>rfl
 | _+1,[]=>rfl
 | n+1,x :: l=>by simp only[twoA,List.filterMap_cons,twoA_dst k n l]
theorem twoB_dst (k:Nat):∀ (n:Nat) (l:List Oper) (d:Nat),d∈(twoB k n l).filterMap (·.dst)→d∈l.filterMap (·.dst)
 | 0,[],_,h=>h
 | 0,[_],_,h=>h
 | 0,x :: y :: l,d,h=>by
  simp only[twoB,List.mem_filterMap,List.mem_cons] at h ⊢
  obtain ⟨o,ho,hd⟩:=h
  rcases ho with rfl | rfl | ho
  ·exact ⟨o,.inr (.inl rfl),hd⟩
  ·exact ⟨x,.inl rfl,hd⟩
  ·exact ⟨o,.inr (.inr ho),hd⟩
 | _+1,[],_,h=>h
 | n+1,x :: l,d,h=>by
  simp only[twoB,List.mem_filterMap,List.mem_cons] at h ⊢
  obtain ⟨o,ho,hd⟩:=h
  rcases ho with rfl | ho
  ·exact ⟨o,.inl rfl,hd⟩
  ·obtain ⟨o',h1,h2⟩:=List.mem_filterMap.1 (twoB_dst k n l d (List.mem_filterMap.2 ⟨o,ho,hd⟩))
   exact ⟨o',.inr h1,h2⟩
theorem symE_at (i:Nat):∀ (l:List Oper) (j:Nat),symE i j l=true→∀ (k:Nat) (o:Oper),l[k]?=some o→o.guard=none∧plainOp o.op=true∧(if j+k=i∨j+k=i+1 then i ∉ edgesOf o∧i+1 ∉ edgesOf o else (i∈edgesOf o↔i+1∈edgesOf o))
 | [],_,_,k,o,h=>by simp at h
 | x :: l,j,hs,k,o,h=>by
  have inL_mem:∀ (m:List Nat) (z:Nat),inL m z=true↔z∈m:=by
   intro m z
   induction m with
   | nil=>simp[inL]
   | cons y m ih =>
    rw[List.mem_cons,← ih,show inL (y :: m) z=(bif Nat.beq y z then true else inL m z) from rfl]
    cases hb:Nat.beq y z with
    | true=>simp[Nat.eq_of_beq_eq_true hb]
    | false =>
     have:z≠y:=fun h=>by rw[h,Nat.beq_refl] at hb;cases hb
     simp[this]
  simp only[symE,Bool.and_eq_true] at hs
  obtain ⟨⟨⟨h1,h2⟩,h3⟩,h4⟩:=hs
  match k with
  | 0 =>
   simp at h
   subst h
   refine ⟨?_,h2,?_⟩
   ·unfold nogrd at h1
    split at h1
    ·assumption
    ·cases h1
   ·rw[Nat.add_zero]
    by_cases hj:j=i∨j=i+1
    ·rw[if_pos hj]
     have hb:(Nat.beq j i || Nat.beq j (i+1))=true:=by
      simp only[Bool.or_eq_true]
      rcases hj with hj | hj
      ·exact .inl (by rw[hj];exact Nat.beq_refl i)
      ·exact .inr (by rw[hj];exact Nat.beq_refl (i+1))
     rw[hb] at h3
     simp only[cond_true,Bool.and_eq_true,Bool.not_eq_true'] at h3
     refine ⟨fun hm=>?_,fun hm=>?_⟩
     ·rw[(inL_mem _ _).2 hm] at h3;cases h3.1
     ·rw[(inL_mem _ _).2 hm] at h3;cases h3.2
    ·rw[if_neg hj]
     have hb:(Nat.beq j i || Nat.beq j (i+1))=false:=by
      simp only[Bool.or_eq_false_iff]
      exact ⟨beq_ne (by omega),beq_ne (by omega)⟩
     rw[hb] at h3
     simp only[cond_false,beq_iff_eq] at h3
     rw[← inL_mem,← inL_mem,h3]
  | k+1 =>
   have:=symE_at i l (j+1) h4 k o (by simpa using h)
   rw[show j+1+k=j+(k+1) by omega] at this
   exact this
section
variable {P:Program}
theorem v_plain (s:Sem Value) (w:World):(∃ x w',(Sem.bind s fun y=>Sem.pure (Next.value y)).run P w=.ok (.value x) w')∨∃ h w',(Sem.bind s fun y=>Sem.pure (Next.value y)).run P w=.halt h w':=by
 rw[Sem.run_bind']
 cases s.run P w with
 | ok x w'=>exact .inl ⟨x,w',rfl⟩
 | halt h w'=>exact .inr ⟨h,w',rfl⟩
theorem u_plain (s:Sem Unit) (w:World):(∃ w',(Sem.bind s fun _=>Sem.pure Next.skip).run P w=.ok .skip w')∨∃ h w',(Sem.bind s fun _=>Sem.pure Next.skip).run P w=.halt h w':=by
 rw[Sem.run_bind']
 cases s.run P w with
 | ok x w'=>exact .inl ⟨w',rfl⟩
 | halt h w'=>exact .inr ⟨h,w',rfl⟩
theorem plain_run {o:Oper} (h:plainOp o.op=true) (ρ:Operand→Value) (w:World):(∃ x w',(execOp ρ o).run P w=.ok (.value x) w')∨(∃ w',(execOp ρ o).run P w=.ok .skip w')∨∃ e w',(execOp ρ o).run P w=.halt e w':=by
 obtain ⟨dst,op,ty,pos,af,gd⟩:=o
 have hv:∀ s:Sem Value,execOp ρ ⟨dst,op,ty,pos,af,gd⟩=Sem.bind s (fun y=>Sem.pure (Next.value y))→((∃ x w',(execOp ρ ⟨dst,op,ty,pos,af,gd⟩).run P w=.ok (.value x) w')∨(∃ w',(execOp ρ ⟨dst,op,ty,pos,af,gd⟩).run P w=.ok .skip w')∨∃ e w',(execOp ρ ⟨dst,op,ty,pos,af,gd⟩).run P w=.halt e w'):=fun s e=>by
  rcases v_plain (P:=P) s w with h | h
  ·exact .inl (by rw[e];exact h)
  ·exact .inr (.inr (by rw[e];exact h))
 cases op<;>first | (have hb:false=true:=h;exact absurd hb (by decide)) | skip
 case alloc e=>exact hv (Instr.alloc e true (.tuple #[])) rfl
 case load t x=>exact hv (Instr.loadAt t (ρ x)) rfl
 case store t a x =>
  rcases u_plain (P:=P) (Instr.storeAt t (ρ a) (ρ x)) w with h | h
  ·exact .inr (.inl h)
  ·exact .inr (.inr h)
 case fieldAddr t x f=>exact hv (Instr.fieldAt t (ρ x) f) rfl
 case indexAddr t x y=>exact hv (Instr.indexAt t (ρ x) (ρ y)) rfl
 case move x=>exact .inl ⟨_,w,rfl⟩
 case assign x=>exact .inl ⟨_,w,rfl⟩
theorem wp_both {o:Oper} (hp:plainOp o.op=true) {a:Act} {w:World} {K K':Act→World→Prop} {Q:Exit→Act→World→Prop} (h:o.wp P a w K Q) (h':o.wp P a w K' Q):o.wp P a w (fun a w=>K a w∧K' a w) Q:=by
 unfold Oper.wp at *
 rcases plain_run (P:=P) hp a.eval w with ⟨x,w',e⟩ | ⟨w',e⟩ | ⟨x,w',e⟩
 ·rw[e] at h h' ⊢;exact ⟨h,h'⟩
 ·rw[e] at h h' ⊢;exact ⟨h,h'⟩
 ·rw[e] at h h' ⊢
  cases x<;>exact h
theorem wpOp_like {ops ops':Array Oper} {Q:Exit→Act→World→Prop} {k k':Nat} {o:Oper} {j:Nat} (h:ops[k]?=some o) (h':ops'[k']?=some (lateE j o)∨ops'[k']?=some o) (hg:o.guard=none) {K:Act→World→Prop} {a:Act} {w:World} :
  wpOp P ops' Q k' K a w↔wpOp P ops Q k K a w:=by
 have hw:∀ y,Region.wanted o y=true:=fun y=>by unfold Region.wanted;rw[hg]
 have hw':∀ y,Region.wanted (lateE j o) y=true:=fun y=>by
  unfold Region.wanted
  rw[show (lateE j o).guard=none from hg]
 rcases h' with h' | h'
 ·unfold wpOp
  rw[h,h']
  simp only[hw,hw',if_true]
  exact Iff.rfl
 ·unfold wpOp
  rw[h,h']
  simp only[hw,if_true]
variable {L:List Oper} {i:Nat} (hi:i+1 < L.length) (hs:symE i 0 L=true) {Q:Exit→Act→World→Prop}
include hi hs
theorem two_S1:∀ (fuel:Nat) (listed:Array Bool) (a:Act) (w:World),listed.size=L.length→listed.getD i false=true→wpAny P .any ⟨twoA i i L⟩ Q fuel listed a w→wpAny P .any ⟨L⟩ Q fuel listed a w:=by
 have hlen:(twoA i i L).length=L.length:=twoA_len _ _ _
 have rd:∀ (listed:Array Bool),listed.size=L.length→listed.getD i false=true→∀ k,(k∈Region.ready .any ⟨twoA i i L⟩ listed↔k∈Region.ready .any ⟨L⟩ listed):=by
  intro listed hsz hl k
  rw[mem_ready (by simpa [hlen] using hsz),mem_ready (by simpa using hsz)]
  have e1:(⟨twoA i i L⟩:Array Oper)[k]?=(twoA i i L)[k]?:=by simp
  have e2:(⟨L⟩:Array Oper)[k]?=L[k]?:=by simp
  rw[e1,e2,twoA_at i i L hi k]
  have e3:(⟨twoA i i L⟩:Array Oper).size=(⟨L⟩:Array Oper).size:=hlen
  rw[e3]
  refine and_congr_right fun hk=>and_congr_right fun _=>?_
  by_cases hk1:k=i+1
  ·rw[if_pos hk1]
   constructor
   ·intro h o ho e he
    exact h (lateE i o) (by rw[ho];rfl) e (by rw[edges_lateE];exact List.mem_cons_of_mem _ he)
   ·intro h o' ho' e he
    obtain ⟨o,ho,rfl⟩:=Option.map_eq_some_iff.1 ho'
    rw[edges_lateE,List.mem_cons] at he
    rcases he with rfl | he
    ·exact hl
    ·exact h o ho e he
  ·rw[if_neg hk1]
 intro fuel
 induction fuel with
 | zero =>
  intro listed a w hsz hl h
  refine ⟨?_,h.2⟩
  rw[List.eq_nil_iff_forall_not_mem]
  intro k hk
  have:=(rd listed hsz hl k).2 hk
  rw[h.1] at this
  simp at this
 | succ fuel ih =>
  intro listed a w hsz hl h
  refine ⟨fun h0=>h.1 ?_,fun k hk=>?_⟩
  ·rw[List.eq_nil_iff_forall_not_mem]
   intro k hk
   have:=(rd listed hsz hl k).1 hk
   rw[h0] at this
   simp at this
  ·have hkA:=(rd listed hsz hl k).2 hk
   have hkl:k < L.length:=((mem_ready (by simpa using hsz)).1 hk).1
   have hw:=wpOp_mono (K':=wpAny P .any ⟨L⟩ Q fuel (listed.setIfInBounds k true)) (fun a w hx=>ih _ a w (by simpa using hsz) (by rw[getD_set (by omega)];split<;>simp_all) hx) (h.2 k hkA)
   have ho:(⟨L⟩:Array Oper)[k]?=some L[k]:=by simp[hkl]
   have hg:=(symE_at i L 0 hs k L[k] (by simp[hkl])).1
   refine (wpOp_like (j:=i) ho ?_ hg).1 hw
   have e1:(⟨twoA i i L⟩:Array Oper)[k]?=(twoA i i L)[k]?:=by simp
   rw[e1,twoA_at i i L hi k]
   by_cases hk1:k=i+1
   ·rw[if_pos hk1];left;simp[hkl]
   ·rw[if_neg hk1];right;simp[hkl]
def sw (i k:Nat):Nat:=if k=i then i+1 else if k=i+1 then i else k
omit hi hs in
theorem sw_sw (i k:Nat):sw i (sw i k)=k:=by unfold sw;(repeat' split)<;>omega
theorem two_S2:∀ (fuel:Nat) (lB lL:Array Bool) (a:Act) (w:World),lB.size=L.length→lL.size=L.length→(∀ k,lB.getD k false=lL.getD (sw i k) false)→lL.getD (i+1) false=true→wpAny P .any ⟨twoB i i L⟩ Q fuel lB a w→wpAny P .any ⟨L⟩ Q fuel lL a w:=by
 have hlen:(twoB i i L).length=L.length:=twoB_len _ _ _
 obtain ⟨b1,b2,b3⟩:=twoB_at i i L hi
 have opAt:∀ k o,L[k]?=some o→(⟨twoB i i L⟩:Array Oper)[sw i k]?=some (lateE i o)∧k=i∨(⟨twoB i i L⟩:Array Oper)[sw i k]?=some o∧k≠i:=by
  intro k o ho
  have e1:(⟨twoB i i L⟩:Array Oper)[sw i k]?=(twoB i i L)[sw i k]?:=by simp
  rw[e1]
  unfold sw
  by_cases h1:k=i
  ·rw[if_pos h1]
   subst h1
   exact .inl ⟨by rw[b2,ho];rfl,rfl⟩
  ·rw[if_neg h1]
   by_cases h2:k=i+1
   ·rw[if_pos h2]
    exact .inr ⟨by rw[b1,← h2,ho],h1⟩
   ·rw[if_neg h2]
    exact .inr ⟨by rw[b3 k h1 h2,ho],h1⟩
 have swl:∀ k,sw i k < L.length↔k < L.length:=by
  intro k
  unfold sw
  (repeat' split)<;>omega
 have rd:∀ (lB lL:Array Bool),lB.size=L.length→lL.size=L.length→(∀ k,lB.getD k false=lL.getD (sw i k) false)→lL.getD (i+1) false=true→∀ k,(sw i k∈Region.ready .any ⟨twoB i i L⟩ lB↔k∈Region.ready .any ⟨L⟩ lL):=by
  intro lB lL hB hL hr hl k
  have hrs:∀ k,lB.getD (sw i k) false=lL.getD k false:=fun k=>by rw[hr,sw_sw]
  have hBi:lB.getD i false=true:=by rw[hr];unfold sw;rw[if_pos rfl];exact hl
  rw[mem_ready (by simpa [hlen] using hB),mem_ready (by simpa using hL),hrs]
  have e3:(⟨twoB i i L⟩:Array Oper).size=L.length:=hlen
  have e4:(⟨L⟩:Array Oper).size=L.length:=rfl
  rw[e3,e4,swl]
  refine and_congr_right fun hk=>and_congr_right fun _=>?_
  have ho:L[k]?=some L[k]:=by simp[hk]
  have e2:(⟨L⟩:Array Oper)[k]?=L[k]?:=by simp
  obtain ⟨_,_,hsy⟩:=symE_at i L 0 hs k L[k] ho
  rw[Nat.zero_add] at hsy
  have key:(∀ e∈edgesOf L[k],lB.getD e false=true)↔∀ e∈edgesOf L[k],lL.getD e false=true:=by
   by_cases hc:k=i∨k=i+1
   ·rw[if_pos hc] at hsy
    have hne:∀ e∈edgesOf L[k],e≠i∧e≠i+1:=fun e he=>⟨fun h=>hsy.1 (h▸he),fun h=>hsy.2 (h▸he)⟩
    have hsame:∀ e∈edgesOf L[k],lB.getD e false=lL.getD e false:=fun e he=>by
     rw[hr];unfold sw;rw[if_neg (hne e he).1,if_neg (hne e he).2]
    exact ⟨fun h e he=>by rw[← hsame e he];exact h e he,fun h e he=>by rw[hsame e he];exact h e he⟩
   ·rw[if_neg hc] at hsy
    have hsm:∀ e,e∈edgesOf L[k]↔sw i e∈edgesOf L[k]:=by
     intro e
     unfold sw
     by_cases h1:e=i
     ·rw[if_pos h1,h1];exact hsy
     ·rw[if_neg h1]
      by_cases h2:e=i+1
      ·rw[if_pos h2,h2];exact hsy.symm
      ·rw[if_neg h2]
    exact ⟨fun h e he=>by rw[← hrs];exact h _ ((hsm e).1 he),fun h e he=>by rw[hr];exact h _ ((hsm e).1 he)⟩
  rw[e2]
  rcases opAt k L[k] ho with ⟨h1,h2⟩ | ⟨h1,h2⟩
  ·rw[h1,ho]
   constructor
   ·intro h o ho' e he
    have:=Option.some.inj ho'
    subst this
    exact key.1 (fun e he=>h _ rfl e (by rw[edges_lateE];exact List.mem_cons_of_mem _ he)) e he
   ·intro h o ho' e he
    have:=Option.some.inj ho'
    subst this
    rw[edges_lateE,List.mem_cons] at he
    rcases he with rfl | he
    ·exact hBi
    ·exact key.2 (h _ rfl) e he
  ·rw[h1,ho]
   constructor
   ·intro h o ho' e he
    have:=Option.some.inj ho'
    subst this
    exact key.1 (h _ rfl) e he
   ·intro h o ho' e he
    have:=Option.some.inj ho'
    subst this
    exact key.2 (h _ rfl) e he
 intro fuel
 induction fuel with
 | zero =>
  intro lB lL a w hB hL hr hl h
  refine ⟨?_,h.2⟩
  rw[List.eq_nil_iff_forall_not_mem]
  intro k hk
  have:=(rd lB lL hB hL hr hl k).2 hk
  rw[h.1] at this
  simp at this
 | succ fuel ih =>
  intro lB lL a w hB hL hr hl h
  refine ⟨fun h0=>h.1 ?_,fun k hk=>?_⟩
  ·rw[List.eq_nil_iff_forall_not_mem]
   intro k hk
   have:=(rd lB lL hB hL hr hl (sw i k)).1 (by rw[sw_sw];exact hk)
   rw[h0] at this
   simp at this
  ·have hkB:=(rd lB lL hB hL hr hl k).2 hk
   have hkl:k < L.length:=((mem_ready (by simpa using hL)).1 hk).1
   have hw:=wpOp_mono (K':=wpAny P .any ⟨L⟩ Q fuel (lL.setIfInBounds k true)) (fun a w hx=>ih (lB.setIfInBounds (sw i k) true) (lL.setIfInBounds k true) a w (by simpa using hB) (by simpa using hL) (fun q=>by
    rw[getD_set (by rw[hB];exact (swl k).2 hkl),getD_set (by omega),hr]
    by_cases hq:q=sw i k
    ·rw[if_pos hq,if_pos (by rw[hq,sw_sw])]
    ·rw[if_neg hq,if_neg (fun h=>hq (by rw[← h,sw_sw]))]) (by rw[getD_set (by omega)];split<;>simp_all) hx) (h.2 (sw i k) hkB)
   have ho:(⟨L⟩:Array Oper)[k]?=some L[k]:=by simp[hkl]
   have hg:=(symE_at i L 0 hs k L[k] (by simp[hkl])).1
   refine (wpOp_like (j:=i) ho ?_ hg).1 hw
   rcases opAt k L[k] (by simp[hkl]) with ⟨h1,_⟩ | ⟨h1,_⟩
   ·exact .inl h1
   ·exact .inr h1
theorem two_S0:∀ (fuel:Nat) (listed:Array Bool) (a:Act) (w:World),listed.size=L.length→listed.getD i false=false→listed.getD (i+1) false=false →
  wpAny P .any ⟨twoA i i L⟩ Q fuel listed a w→wpAny P .any ⟨twoB i i L⟩ Q fuel listed a w→wpAny P .any ⟨L⟩ Q fuel listed a w:=by
 have hlA:(twoA i i L).length=L.length:=twoA_len _ _ _
 have hlB:(twoB i i L).length=L.length:=twoB_len _ _ _
 obtain ⟨b1,b2,b3⟩:=twoB_at i i L hi
 have eL:∀ k:Nat,(⟨L⟩:Array Oper)[k]?=L[k]?:=fun k=>by simp
 have eA:∀ k:Nat,(⟨twoA i i L⟩:Array Oper)[k]?=(twoA i i L)[k]?:=fun k=>by simp
 have eB:∀ k:Nat,(⟨twoB i i L⟩:Array Oper)[k]?=(twoB i i L)[k]?:=fun k=>by simp
 have rA:∀ (listed:Array Bool),listed.size=L.length→∀ k,k≠i+1→k∈Region.ready .any ⟨L⟩ listed→k∈Region.ready .any ⟨twoA i i L⟩ listed:=by
  intro listed hsz k hk h
  rw[mem_ready (by show listed.size=L.length;exact hsz)] at h
  rw[mem_ready (by show listed.size=(twoA i i L).length;rw[hlA];exact hsz)]
  refine ⟨by show k < (twoA i i L).length;rw[hlA];exact h.1,h.2.1,fun o ho=>h.2.2 o ?_⟩
  rw[eA,twoA_at i i L hi k,if_neg hk] at ho
  rw[eL];exact ho
 have rA':∀ (listed:Array Bool),listed.size=L.length→∀ k,k∈Region.ready .any ⟨twoA i i L⟩ listed→k∈Region.ready .any ⟨L⟩ listed:=by
  intro listed hsz k h
  rw[mem_ready (by show listed.size=(twoA i i L).length;rw[hlA];exact hsz)] at h
  rw[mem_ready (by show listed.size=L.length;exact hsz)]
  refine ⟨by have:=h.1;show k < L.length;rw[← hlA];exact this,h.2.1,fun o ho e he=>?_⟩
  rw[eL] at ho
  by_cases hk:k=i+1
  ·exact h.2.2 (lateE i o) (by rw[eA,twoA_at i i L hi k,if_pos hk,ho];rfl) e (by rw[edges_lateE];exact List.mem_cons_of_mem _ he)
  ·exact h.2.2 o (by rw[eA,twoA_at i i L hi k,if_neg hk,ho]) e he
 have rB:∀ (listed:Array Bool),listed.size=L.length→∀ k,k≠i→k≠i+1→k∈Region.ready .any ⟨L⟩ listed→k∈Region.ready .any ⟨twoB i i L⟩ listed:=by
  intro listed hsz k hk hk1 h
  rw[mem_ready (by show listed.size=L.length;exact hsz)] at h
  rw[mem_ready (by show listed.size=(twoB i i L).length;rw[hlB];exact hsz)]
  refine ⟨by show k < (twoB i i L).length;rw[hlB];exact h.1,h.2.1,fun o ho=>h.2.2 o ?_⟩
  rw[eB,b3 k hk hk1] at ho
  rw[eL];exact ho
 have rBi:∀ (listed:Array Bool),listed.size=L.length→listed.getD i false=false→i+1∈Region.ready .any ⟨L⟩ listed→i∈Region.ready .any ⟨twoB i i L⟩ listed:=by
  intro listed hsz hl h
  rw[mem_ready (by show listed.size=L.length;exact hsz)] at h
  rw[mem_ready (by show listed.size=(twoB i i L).length;rw[hlB];exact hsz)]
  refine ⟨by show i < (twoB i i L).length;omega,hl,fun o ho=>h.2.2 o ?_⟩
  rw[eB,b1] at ho
  rw[eL];exact ho
 intro fuel
 induction fuel with
 | zero =>
  intro listed a w hsz h0 h1 hA hB
  refine ⟨?_,hA.2⟩
  rw[List.eq_nil_iff_forall_not_mem]
  intro k hk
  by_cases hk1:k=i+1
  ·have:=rBi listed hsz h0 (hk1▸hk)
   rw[hB.1] at this
   simp at this
  ·have:=rA listed hsz k hk1 hk
   rw[hA.1] at this
   simp at this
 | succ fuel ih =>
  intro listed a w hsz h0 h1 hA hB
  refine ⟨fun hn=>hA.1 ?_,fun k hk=>?_⟩
  ·rw[List.eq_nil_iff_forall_not_mem]
   intro k hk
   have:=rA' listed hsz k hk
   rw[hn] at this
   simp at this
  have hkl:k < L.length:=((mem_ready (by simpa using hsz)).1 hk).1
  have ho:(⟨L⟩:Array Oper)[k]?=some L[k]:=by simp[hkl]
  obtain ⟨hg,hpl,_⟩:=symE_at i L 0 hs k L[k] (by simp[hkl])
  by_cases hk0:k=i
  ·have hw:=wpOp_mono (K':=wpAny P .any ⟨L⟩ Q fuel (listed.setIfInBounds k true)) (fun a w hx=>two_S1 hi hs fuel _ a w (by simpa using hsz) (by rw[getD_set (by omega),if_pos hk0.symm]) hx) (hA.2 k (rA listed hsz k (by omega) hk))
   refine (wpOp_like (j:=i) ho (.inr ?_) hg).1 hw
   rw[eA,twoA_at i i L hi k,if_neg (by omega)];simp[hkl]
  by_cases hk1:k=i+1
  ·have hw:=wpOp_mono (K':=wpAny P .any ⟨L⟩ Q fuel (listed.setIfInBounds k true)) (fun a w hx=>two_S2 hi hs fuel (listed.setIfInBounds i true) (listed.setIfInBounds k true) a w (by simpa using hsz) (by simpa using hsz) (fun q=>by
    rw[getD_set (by omega),getD_set (by omega)]
    unfold sw
    by_cases hq:q=i
    ·rw[if_pos hq,if_pos hq,if_pos hk1.symm]
    ·rw[if_neg hq,if_neg hq]
     by_cases hq1:q=i+1
     ·rw[if_pos hq1,if_neg (by omega),hq1,h1,h0]
     ·rw[if_neg hq1,if_neg (by omega)]) (by rw[getD_set (by omega),if_pos hk1.symm]) hx) (hB.2 i (rBi listed hsz h0 (hk1▸hk)))
   refine (wpOp_like (k':=i) (j:=i) ho (.inr ?_) hg).1 hw
   rw[eB,b1,← hk1];simp[hkl]
  ·have hwA:=hA.2 k (rA listed hsz k hk1 hk)
   have hwB:=hB.2 k (rB listed hsz k hk0 hk1 hk)
   have hwA':=(wpOp_like (P:=P) (ops':=⟨twoA i i L⟩) (k':=k) (Q:=Q) (j:=i) (K:=wpAny P .any ⟨twoA i i L⟩ Q fuel (listed.setIfInBounds k true)) (a:=a) (w:=w) ho (.inr (by rw[eA,twoA_at i i L hi k,if_neg hk1];simp[hkl])) hg).1 hwA
   have hwB':=(wpOp_like (P:=P) (ops':=⟨twoB i i L⟩) (k':=k) (Q:=Q) (j:=i) (K:=wpAny P .any ⟨twoB i i L⟩ Q fuel (listed.setIfInBounds k true)) (a:=a) (w:=w) ho (.inr (by rw[eB,b3 k hk0 hk1];simp[hkl])) hg).1 hwB
   have both:wpOp P ⟨L⟩ Q k (fun a w=>wpAny P .any ⟨twoA i i L⟩ Q fuel (listed.setIfInBounds k true) a w∧wpAny P .any ⟨twoB i i L⟩ Q fuel (listed.setIfInBounds k true) a w) a w:=by
    unfold wpOp at hwA' hwB' ⊢
    rw[ho] at hwA' hwB' ⊢
    have hwt:∀ y,Region.wanted L[k] y=true:=fun y=>by unfold Region.wanted;rw[hg]
    simp only[hwt] at hwA' hwB' ⊢
    rw[if_pos trivial] at hwA' hwB' ⊢
    rcases hwA' with hA | hA
    ·rcases hwB' with hB | hB
     ·exact .inl (wp_both hpl hA hB)
     ·exact .inr hB
    ·exact .inr hA
   exact wpOp_mono (fun a w hx=>ih _ a w (by simpa using hsz) (by rw[getD_set (by omega),if_neg (fun h=>hk0 h.symm)];exact h0) (by rw[getD_set (by omega),if_neg (fun h=>hk1 h.symm)];exact h1) hx.1 hx.2) both
end
def lateL (i:Nat):Nat→List Oper→List Oper
 | _,[]=>[]
 | 0,y :: l=>lateE i y :: l
 | n+1,x :: l=>x :: lateL i n l
theorem lateL_at (i:Nat):∀ (n:Nat) (l:List Oper) (k:Nat),(lateL i n l)[k]?=if k=n then (l[k]?).map (lateE i) else l[k]?
 | n,[],k=>by cases n<;>simp[lateL]
 | 0,y :: l,k=>by cases k<;>simp[lateL]
 | n+1,x :: l,k=>by
  cases k with
  | zero=>simp[lateL]
  | succ k =>
   simp only[lateL,List.getElem?_cons_succ,lateL_at i n l k]
   by_cases h:k=n
   ·rw[if_pos h,if_pos (by omega)]
   ·rw[if_neg h,if_neg (by omega)]
theorem lateL_len (i:Nat):∀ (n:Nat) (l:List Oper),(lateL i n l).length=l.length
 | n,[]=>by cases n<;>rfl
 | 0,_ :: _=>rfl
 | n+1,_ :: l=>by simp only[lateL,List.length_cons,lateL_len i n l]
theorem lateL_dst (i:Nat):∀ (n:Nat) (l:List Oper),(lateL i n l).filterMap (·.dst)=l.filterMap (·.dst)
 | n,[]=>by cases n<;>rfl
 | 0,_ :: _=>rfl
 | n+1,x :: l=>by simp only[lateL,List.filterMap_cons,lateL_dst i n l]
structure LateOk (i j:Nat) (L:List Oper):Prop where
 ne:i≠j
 grd:∀ (k:Nat) (o:Oper),L[k]?=some o→o.guard=none
 one:∃ p d s x,L[i]?=some p∧p.dst=some d∧p.op=.extract (.tmp s) x
 two:∃ q t x y,L[j]?=some q∧q.dst=none∧q.op=.store t (.tmp x) (.tmp y)∧∀ p d,L[i]?=some p→p.dst=some d→x≠d∧y≠d
 edg:∀ p q,L[i]?=some p→L[j]?=some q→∀ e∈edgesOf p,e∈edgesOf q
 all:∀ (k:Nat) (o q:Oper),L[k]?=some o→L[j]?=some q→k≠i→k≠j→k∈edgesOf q∨i∈edgesOf o
section
variable {P:Program} {L:List Oper} {i j:Nat} {Q:Exit→Act→World→Prop}
theorem wait_S1 (hgd:∀ (k:Nat) (o:Oper),L[k]?=some o→o.guard=none):∀ (fuel:Nat) (listed:Array Bool) (a:Act) (w:World),listed.size=L.length→listed.getD i false=true→wpAny P .any ⟨lateL i j L⟩ Q fuel listed a w→wpAny P .any ⟨L⟩ Q fuel listed a w:=by
 have hlen:(lateL i j L).length=L.length:=lateL_len _ _ _
 have rd:∀ (listed:Array Bool),listed.size=L.length→listed.getD i false=true→∀ k,(k∈Region.ready .any ⟨lateL i j L⟩ listed↔k∈Region.ready .any ⟨L⟩ listed):=by
  intro listed hsz hl k
  rw[mem_ready (by simpa [hlen] using hsz),mem_ready (by simpa using hsz)]
  have e1:(⟨lateL i j L⟩:Array Oper)[k]?=(lateL i j L)[k]?:=by simp
  have e2:(⟨L⟩:Array Oper)[k]?=L[k]?:=by simp
  rw[e1,e2,lateL_at i j L k]
  have e3:(⟨lateL i j L⟩:Array Oper).size=(⟨L⟩:Array Oper).size:=hlen
  rw[e3]
  refine and_congr_right fun hk=>and_congr_right fun _=>?_
  by_cases hk1:k=j
  ·rw[if_pos hk1]
   constructor
   ·intro h o ho e he
    exact h (lateE i o) (by rw[ho];rfl) e (by rw[edges_lateE];exact List.mem_cons_of_mem _ he)
   ·intro h o' ho' e he
    obtain ⟨o,ho,rfl⟩:=Option.map_eq_some_iff.1 ho'
    rw[edges_lateE,List.mem_cons] at he
    rcases he with rfl | he
    ·exact hl
    ·exact h o ho e he
  ·rw[if_neg hk1]
 intro fuel
 induction fuel with
 | zero =>
  intro listed a w hsz hl h
  refine ⟨?_,h.2⟩
  rw[List.eq_nil_iff_forall_not_mem]
  intro k hk
  have:=(rd listed hsz hl k).2 hk
  rw[h.1] at this
  simp at this
 | succ fuel ih =>
  intro listed a w hsz hl h
  refine ⟨fun h0=>h.1 ?_,fun k hk=>?_⟩
  ·rw[List.eq_nil_iff_forall_not_mem]
   intro k hk
   have:=(rd listed hsz hl k).1 hk
   rw[h0] at this
   simp at this
  ·have hkA:=(rd listed hsz hl k).2 hk
   have hkl:k < L.length:=((mem_ready (by simpa using hsz)).1 hk).1
   have hw:=wpOp_mono (K':=wpAny P .any ⟨L⟩ Q fuel (listed.setIfInBounds k true)) (fun a w hx=>ih _ a w (by simpa using hsz) (by rw[getD_set (by omega)];split<;>simp_all) hx) (h.2 k hkA)
   have ho:(⟨L⟩:Array Oper)[k]?=some L[k]:=by simp[hkl]
   have hg:=hgd k L[k] (by simp[hkl])
   refine (wpOp_like (j:=i) ho ?_ hg).1 hw
   have e1:(⟨lateL i j L⟩:Array Oper)[k]?=(lateL i j L)[k]?:=by simp
   rw[e1,lateL_at i j L k]
   by_cases hk1:k=j
   ·rw[if_pos hk1];left;simp[hkl]
   ·rw[if_neg hk1];right;simp[hkl]
def leadChk (i j:Nat) (L:List Oper):Bool :=
 !(Nat.beq i j) && (match nthO L i with
  | some o=>(match o.op with | .move _=>true | _=>false) && (match edgesOf o with | []=>true | _=>false) && freeB L o i [] 0 L
  | none=>false) && noSel L && L.all nogrd
theorem lead_wait (hc:leadChk i j L=true) (hQ:∀ ch a w,¬Q (.panic ch) a w) (hL:¬LetsOut Q) {a:Act} {w:World} (h:wpAny P .any ⟨lateL i j L⟩ Q L.length (Array.replicate L.length false) a w):wpAny P .any ⟨L⟩ Q L.length (Array.replicate L.length false) a w:=by
 unfold leadChk at hc
 simp only[Bool.and_eq_true,Bool.not_eq_true'] at hc
 obtain ⟨⟨⟨h1,h2⟩,h3⟩,h4⟩:=hc
 have hij:i≠j:=fun e=>by subst e;rw[Nat.beq_refl] at h1;cases h1
 have hgd:∀ (k:Nat) (o:Oper),L[k]?=some o→o.guard=none:=fun k o hk=>by
  have:=List.all_eq_true.1 h4 o (List.mem_of_getElem? hk)
  unfold nogrd at this
  split at this
  ·assumption
  ·cases this
 rw[nthO_eq] at h2
 cases ho:L[i]? with
 | none=>rw[ho] at h2;cases h2
 | some o =>
  rw[ho] at h2
  simp only[Bool.and_eq_true] at h2
  obtain ⟨⟨g1,g2⟩,g3⟩:=h2
  have hil:i < L.length:=(List.getElem?_eq_some_iff.1 ho).1
  obtain ⟨n,hn⟩:∃ n,L.length=n+1:=⟨L.length - 1,by omega⟩
  have hz:∀ k,(Array.replicate L.length false).getD k false=false:=fun k=>by
   rw[Array.getD_eq_getD_getElem?,Array.getElem?_replicate]
   split<;>simp
  have hlen:(lateL i j L).length=L.length:=lateL_len _ _ _
  have hoA:(⟨lateL i j L⟩:Array Oper)[i]?=some o:=by
   have:(⟨lateL i j L⟩:Array Oper)[i]?=(lateL i j L)[i]?:=by simp
   rw[this,lateL_at,if_neg hij];exact ho
  have hed:edgesOf o=[]:=by
   split at g2
   ·assumption
   ·cases g2
  obtain ⟨x,hx⟩:∃ x,o.op=.move x:=by
   split at g1
   ·exact ⟨_,by assumption⟩
   ·cases g1
  have hrun:∀ w:World,(execOp a.eval o).run P w=.ok (.value (a.eval x)) w:=fun w=>by simp[execOp,hx]
  have hw:∀ y,Region.wanted o y=true:=fun y=>by unfold Region.wanted;rw[hgd i o ho]
  have hrA:i∈Region.ready .any ⟨lateL i j L⟩ (Array.replicate L.length false):=(mem_ready (by simp[hlen])).2 ⟨by simp[hlen,hil],hz i,fun o' ho' e he=>by
   rw[hoA] at ho'
   injection ho' with ho'
   subst ho'
   rw[hed] at he
   cases he⟩
  have hr:i∈Region.ready .any ⟨L⟩ (Array.replicate L.length false):=(mem_ready (by simp)).2 ⟨by simpa using hil,hz i,fun o' ho' e he=>by
   have ho'':L[i]?=some o':=by simpa using ho'
   rw[ho] at ho''
   injection ho'' with ho''
   subst ho''
   rw[hed] at he
   cases he⟩
  rw[hn] at h ⊢
  rw[hn] at hrA hr
  have h5:=h.2 i hrA
  unfold wpOp at h5
  rw[hoA] at h5
  simp only[hw,if_true] at h5
  have h6:wpAny P .any ⟨lateL i j L⟩ Q n ((Array.replicate (n+1) false).setIfInBounds i true) (a.put o.dst (a.eval x)) w:=by
   rcases h5 with h5 | h5
   ·unfold Oper.wp at h5
    rw[hrun w] at h5
    exact h5
   ·exact absurd h5.2 hL
  have h7:=wait_S1 (i:=i) (j:=j) hgd n ((Array.replicate (n+1) false).setIfInBounds i true) (a.put o.dst (a.eval x)) w (by simp[hn]) (by rw[getD_set (by simp;omega),if_pos rfl]) h6
  refine wpAny_first (md:=.any) (ops:=⟨L⟩) (i:=i) (oi:=o) (v:=a.eval x) (by simpa using ho) (fun j o cs b hj=>noSel_at h3 j o cs b (by simpa using hj)) (fun c a w h=>absurd h (hQ c _ w)) n (Array.replicate (n+1) false) a w ?_ hr (.inl ⟨hw _,hrun⟩) h7
  intro k ok hk hne _ hno
  refine freeB_at g3 k ok (by simpa using hk) (by omega) rfl ?_
  intro hin
  simp only[edgesOf,List.mem_filterMap] at hin
  obtain ⟨e,he,hee⟩:=hin
  have hbe:Region.binds .any e=true∧e.on=i:=by
   unfold Region.binds
   cases hg2:e.ground<;>rw[hg2] at hee<;>simp_all
  exact hno e (by simpa using he) hbe.1 hbe.2
end
section
variable {P:Program} {L:List Oper} {i j:Nat} (hok:LateOk i j L) {Q:Exit→Act→World→Prop}
include hok
theorem late_S1:∀ (fuel:Nat) (listed:Array Bool) (a:Act) (w:World),listed.size=L.length→listed.getD i false=true→wpAny P .any ⟨lateL i j L⟩ Q fuel listed a w→wpAny P .any ⟨L⟩ Q fuel listed a w:=by
 have hlen:(lateL i j L).length=L.length:=lateL_len _ _ _
 have rd:∀ (listed:Array Bool),listed.size=L.length→listed.getD i false=true→∀ k,(k∈Region.ready .any ⟨lateL i j L⟩ listed↔k∈Region.ready .any ⟨L⟩ listed):=by
  intro listed hsz hl k
  rw[mem_ready (by simpa [hlen] using hsz),mem_ready (by simpa using hsz)]
  have e1:(⟨lateL i j L⟩:Array Oper)[k]?=(lateL i j L)[k]?:=by simp
  have e2:(⟨L⟩:Array Oper)[k]?=L[k]?:=by simp
  rw[e1,e2,lateL_at i j L k]
  have e3:(⟨lateL i j L⟩:Array Oper).size=(⟨L⟩:Array Oper).size:=hlen
  rw[e3]
  refine and_congr_right fun hk=>and_congr_right fun _=>?_
  by_cases hk1:k=j
  ·rw[if_pos hk1]
   constructor
   ·intro h o ho e he
    exact h (lateE i o) (by rw[ho];rfl) e (by rw[edges_lateE];exact List.mem_cons_of_mem _ he)
   ·intro h o' ho' e he
    obtain ⟨o,ho,rfl⟩:=Option.map_eq_some_iff.1 ho'
    rw[edges_lateE,List.mem_cons] at he
    rcases he with rfl | he
    ·exact hl
    ·exact h o ho e he
  ·rw[if_neg hk1]
 intro fuel
 induction fuel with
 | zero =>
  intro listed a w hsz hl h
  refine ⟨?_,h.2⟩
  rw[List.eq_nil_iff_forall_not_mem]
  intro k hk
  have:=(rd listed hsz hl k).2 hk
  rw[h.1] at this
  simp at this
 | succ fuel ih =>
  intro listed a w hsz hl h
  refine ⟨fun h0=>h.1 ?_,fun k hk=>?_⟩
  ·rw[List.eq_nil_iff_forall_not_mem]
   intro k hk
   have:=(rd listed hsz hl k).1 hk
   rw[h0] at this
   simp at this
  ·have hkA:=(rd listed hsz hl k).2 hk
   have hkl:k < L.length:=((mem_ready (by simpa using hsz)).1 hk).1
   have hw:=wpOp_mono (K':=wpAny P .any ⟨L⟩ Q fuel (listed.setIfInBounds k true)) (fun a w hx=>ih _ a w (by simpa using hsz) (by rw[getD_set (by omega)];split<;>simp_all) hx) (h.2 k hkA)
   have ho:(⟨L⟩:Array Oper)[k]?=some L[k]:=by simp[hkl]
   have hg:=hok.grd k L[k] (by simp[hkl])
   refine (wpOp_like (j:=i) ho ?_ hg).1 hw
   have e1:(⟨lateL i j L⟩:Array Oper)[k]?=(lateL i j L)[k]?:=by simp
   rw[e1,lateL_at i j L k]
   by_cases hk1:k=j
   ·rw[if_pos hk1];left;simp[hkl]
   ·rw[if_neg hk1];right;simp[hkl]
omit hok in
theorem set_swap (l:Array Bool) (a b:Nat):(l.setIfInBounds a true).setIfInBounds b true=(l.setIfInBounds b true).setIfInBounds a true:=by
 apply Array.ext (by simp)
 intro z h1 h2
 rw[Array.getElem_setIfInBounds (by simpa using h1),Array.getElem_setIfInBounds (by simpa using h2),Array.getElem_setIfInBounds (by simpa using h1),Array.getElem_setIfInBounds (by simpa using h1)]
 by_cases ha:a=z<;>by_cases hb:b=z<;>simp[ha,hb]
omit hok in
theorem ext_run {o:Oper} {x:Operand} {n:Nat} (h:o.op=.extract x n) (ρ:Operand→Value):(∃ v,∀ w:World,(execOp ρ o).run P w=.ok (.value v) w)∨(∃ m,∀ w:World,(execOp ρ o).run P w=.halt (.stuck m) w):=by
 unfold execOp
 rw[h]
 simp only[Instr.extract]
 split
 ·split
  ·exact .inl ⟨_,fun w=>rfl⟩
  ·exact .inr ⟨_,fun w=>rfl⟩
 ·exact .inr ⟨_,fun w=>rfl⟩
omit hok in
theorem sto_run {o:Oper} {t:TypeId} {x y:Operand} (h:o.op=.store t x y) (ρ:Operand→Value) (w:World):(∃ w',(execOp ρ o).run P w=.ok .skip w')∨∃ e w',(execOp ρ o).run P w=.halt e w':=by
 have e:execOp ρ o=Sem.bind (Instr.storeAt t (ρ x) (ρ y)) (fun _=>Sem.pure Next.skip):=by unfold execOp;rw[h];rfl
 rw[e]
 exact u_plain _ _
theorem late_S0 (hQ:∀ ch a w,¬Q (.panic ch) a w) (hL:¬LetsOut Q):∀ (fuel:Nat) (listed:Array Bool) (a:Act) (w:World),listed.size=L.length→listed.getD j false=false→wpAny P .any ⟨lateL i j L⟩ Q fuel listed a w→wpAny P .any ⟨L⟩ Q fuel listed a w:=by
 have hlen:(lateL i j L).length=L.length:=lateL_len _ _ _
 obtain ⟨p,d,s,x,hp,hpd,hpo⟩:=hok.one
 obtain ⟨q,t,u,y,hq,hqd,hqo,hqn⟩:=hok.two
 obtain ⟨hu,hy⟩:=hqn p d hp hpd
 have hed:=hok.edg p q hp hq
 have hall:=fun k o h=>hok.all k o q h hq
 have hne:=hok.ne
 have il:i < L.length:=(List.getElem?_eq_some_iff.1 hp).1
 have jl:j < L.length:=(List.getElem?_eq_some_iff.1 hq).1
 have eL:∀ k:Nat,(⟨L⟩:Array Oper)[k]?=L[k]?:=fun k=>by simp
 have eA:∀ k:Nat,(⟨lateL i j L⟩:Array Oper)[k]?=if k=j then (L[k]?).map (lateE i) else L[k]?:=fun k=>by
  rw[← lateL_at i j L k];simp
 have szL:(⟨L⟩:Array Oper).size=L.length:=rfl
 have szA:(⟨lateL i j L⟩:Array Oper).size=L.length:=hlen
 have wn:∀ (o:Oper) f,o.guard=none→Region.wanted o f=true:=fun o f h=>by unfold Region.wanted;rw[h]
 have inL':∀ (listed:Array Bool),listed.size=L.length→∀ k,k∈Region.ready .any ⟨L⟩ listed↔k < L.length∧listed.getD k false=false∧∀ o,L[k]?=some o→∀ e∈edgesOf o,listed.getD e false=true:=fun listed hsz k=>by
  rw[mem_ready (by rw[szL];exact hsz),eL,szL]
 have inA':∀ (listed:Array Bool),listed.size=L.length→∀ k,k∈Region.ready .any ⟨lateL i j L⟩ listed↔k < L.length∧listed.getD k false=false∧∀ o,(if k=j then (L[k]?).map (lateE i) else L[k]?)=some o→∀ e∈edgesOf o,listed.getD e false=true:=fun listed hsz k=>by
  rw[mem_ready (by rw[szA];exact hsz),eA,szA]
 have rA:∀ (listed:Array Bool),listed.size=L.length→∀ k,(k=j→listed.getD i false=true)→k∈Region.ready .any ⟨L⟩ listed→k∈Region.ready .any ⟨lateL i j L⟩ listed:=by
  intro listed hsz k hk h
  rw[inL' listed hsz] at h
  rw[inA' listed hsz]
  refine ⟨h.1,h.2.1,fun o ho e he=>?_⟩
  by_cases hkj:k=j
  ·rw[if_pos hkj] at ho
   obtain ⟨o',ho',rfl⟩:=Option.map_eq_some_iff.1 ho
   rw[edges_lateE,List.mem_cons] at he
   rcases he with rfl | he
   ·exact hk hkj
   ·exact h.2.2 o' ho' e he
  ·rw[if_neg hkj] at ho
   exact h.2.2 o ho e he
 have rA':∀ (listed:Array Bool),listed.size=L.length→∀ k,k∈Region.ready .any ⟨lateL i j L⟩ listed→k∈Region.ready .any ⟨L⟩ listed:=by
  intro listed hsz k h
  rw[inA' listed hsz] at h
  rw[inL' listed hsz]
  refine ⟨h.1,h.2.1,fun o ho e he=>?_⟩
  by_cases hkj:k=j
  ·exact h.2.2 (lateE i o) (by rw[if_pos hkj,ho];rfl) e (by rw[edges_lateE];exact List.mem_cons_of_mem _ he)
  ·exact h.2.2 o (by rw[if_neg hkj];exact ho) e he
 have rI:∀ (listed:Array Bool),listed.size=L.length→listed.getD i false=false→j∈Region.ready .any ⟨L⟩ listed→i∈Region.ready .any ⟨lateL i j L⟩ listed:=by
  intro listed hsz hl h
  rw[inL' listed hsz] at h
  rw[inA' listed hsz]
  refine ⟨il,hl,fun o ho e he=>?_⟩
  rw[if_neg hne,hp] at ho
  injection ho with ho
  subst ho
  exact h.2.2 q hq e (hed e he)
 intro fuel
 induction fuel with
 | zero =>
  intro listed a w hsz h0 hA
  refine ⟨?_,hA.2⟩
  rw[List.eq_nil_iff_forall_not_mem]
  intro k hk
  by_cases hc:k=j→listed.getD i false=true
  ·have:=rA listed hsz k hc hk
   rw[hA.1] at this
   simp at this
  ·have hkj:k=j:=Classical.byContradiction fun h=>hc (fun e=>absurd e h)
   subst hkj
   have:=rI listed hsz (by cases hh:listed.getD i false with | false=>rfl | true=>exact absurd (fun _=>hh) hc) hk
   rw[hA.1] at this
   simp at this
 | succ fuel ih =>
  intro listed a w hsz h0 hA
  refine ⟨fun hn=>hA.1 ?_,fun k hk=>?_⟩
  ·rw[List.eq_nil_iff_forall_not_mem]
   intro k hk
   have:=rA' listed hsz k hk
   rw[hn] at this
   simp at this
  have hkl:k < L.length:=((inL' listed hsz k).1 hk).1
  have ho:(⟨L⟩:Array Oper)[k]?=some L[k]:=by simp[hkl]
  have hg:=hok.grd k L[k] (by simp[hkl])
  by_cases hkj:k=j
  ·subst hkj
   cases hli:listed.getD i false with
   | true =>
    have hw:=wpOp_mono (K':=wpAny P .any ⟨L⟩ Q fuel (listed.setIfInBounds k true)) (fun a w hx=>late_S1 hok fuel _ a w (by simpa using hsz) (by rw[getD_set (by omega),if_neg hne,hli]) hx) (hA.2 k (rA listed hsz k (fun _=>hli) hk))
    refine (wpOp_like (k':=k) (j:=i) ho (.inl ?_) hg).1 hw
    rw[eA,if_pos rfl];simp[hkl]
   | false =>
    have h1:=hA.2 i (rI listed hsz hli hk)
    unfold wpOp at h1
    rw[eA,if_neg hne,hp] at h1
    simp only[wn p _ (hok.grd i p hp),if_true] at h1
    replace h1:=h1.resolve_right fun h=>hL h.2
    unfold Oper.wp at h1
    rcases ext_run (P:=P) hpo a.eval with ⟨v,hv⟩ | ⟨m,hm⟩
    ·rw[hv w] at h1
     replace h1:wpAny P .any ⟨lateL i k L⟩ Q fuel (listed.setIfInBounds i true) (a.put p.dst v) w:=h1
     have hsz1:(listed.setIfInBounds i true).size=L.length:=by simpa using hsz
     have hjr:k∈Region.ready .any ⟨lateL i k L⟩ (listed.setIfInBounds i true):=by
      rw[inA' _ hsz1]
      refine ⟨jl,by rw[getD_set (by omega),if_neg (fun h=>hne h.symm)];exact h0,fun o ho e he=>?_⟩
      rw[if_pos rfl,hq] at ho
      injection ho with ho
      subst ho
      rw[edges_lateE,List.mem_cons] at he
      rw[getD_set (by omega)]
      rcases he with rfl | he
      ·rw[if_pos rfl]
      ·split
       ·rfl
       ·exact ((inL' listed hsz k).1 hk).2.2 q hq e he
     cases fuel with
     | zero =>
      rw[h1.1] at hjr
      simp at hjr
     | succ f =>
      have h2:=h1.2 k hjr
      unfold wpOp at h2
      rw[eA,if_pos rfl,hq] at h2
      simp only[Option.map_some,wn (lateE i q) _ (hok.grd k q hq),if_true] at h2
      replace h2:=h2.resolve_right fun h=>hL h.2
      unfold Oper.wp at h2
      have ex:execOp (a.put p.dst v).eval (lateE i q)=execOp a.eval q:=by
       have e0:execOp (a.put p.dst v).eval (lateE i q)=execOp (a.put p.dst v).eval q:=rfl
       have ev:∀ z,z≠d→(a.put p.dst v).eval (.tmp z)=a.eval (.tmp z):=fun z hz=>by
        simp only[Act.eval,hpd,Act.put,Array.getD_eq_getD_getElem?,Array.getElem?_setIfInBounds]
        rw[if_neg (fun h=>hz h.symm)]
       rw[e0]
       unfold execOp
       rw[hqo]
       simp only[ev u hu,ev y hy]
      rw[ex] at h2
      rcases sto_run (P:=P) hqo a.eval w with ⟨w2,e⟩ | ⟨e,w2,e'⟩
      ·rw[e] at h2
       replace h2:wpAny P .any ⟨lateL i k L⟩ Q f ((listed.setIfInBounds i true).setIfInBounds k true) ((a.put p.dst v).put q.dst undef) w2:=h2
       rw[show (a.put p.dst v).put q.dst undef=a.put p.dst v by rw[hqd];rfl] at h2
       unfold wpOp
       rw[eL,hq]
       simp only[wn q _ (hok.grd k q hq),if_true]
       left
       unfold Oper.wp
       rw[e]
       show wpAny P .any ⟨L⟩ Q (f+1) (listed.setIfInBounds k true) (a.put q.dst undef) w2
       rw[show a.put q.dst undef=a by rw[hqd];rfl]
       have hszk:(listed.setIfInBounds k true).size=L.length:=by simpa using hsz
       have hik:i∈Region.ready .any ⟨L⟩ (listed.setIfInBounds k true):=by
        rw[inL' _ hszk]
        refine ⟨il,by rw[getD_set (by omega),if_neg hne];exact hli,fun o ho e he=>?_⟩
        rw[hp] at ho
        injection ho with ho
        subst ho
        rw[getD_set (by omega)]
        split
        ·rfl
        ·exact ((inL' listed hsz k).1 hk).2.2 q hq e (hed e he)
       refine ⟨fun hn=>?_,fun m hm=>?_⟩
       ·rw[hn] at hik
        simp at hik
       ·have hmi:m=i:=Classical.byContradiction fun hmi=>by
         obtain ⟨ml,mu,me⟩:=(inL' _ hszk m).1 hm
         have hmk:m≠k:=fun e=>by
          rw[e,getD_set (by omega),if_pos rfl] at mu
          cases mu
         rw[getD_set (by omega),if_neg hmk] at mu
         rcases hall m L[m] (by simp[ml]) hmi hmk with h | h
         ·have:=((inL' listed hsz k).1 hk).2.2 q hq m h
          rw[mu] at this
          cases this
         ·have:=me L[m] (by simp[ml]) i h
          rw[getD_set (by omega),if_neg hne,hli] at this
          cases this
        subst hmi
        unfold wpOp
        rw[eL,hp]
        simp only[wn p _ (hok.grd m p hp),if_true]
        left
        unfold Oper.wp
        rw[hv w2]
        show wpAny P .any ⟨L⟩ Q f ((listed.setIfInBounds k true).setIfInBounds m true) (a.put p.dst v) w2
        refine late_S1 hok f _ _ _ (by simpa using hsz) (by rw[getD_set (by simp;omega),if_pos rfl]) ?_
        rw[set_swap]
        exact h2
      ·rw[e'] at h2
       cases e<;>first | exact (hQ _ _ _ h2).elim | exact h2.elim
    ·rw[hm w] at h1
     exact h1.elim
  ·have hw:=wpOp_mono (K':=wpAny P .any ⟨L⟩ Q fuel (listed.setIfInBounds k true)) (fun a w hx=>ih _ a w (by simpa using hsz) (by rw[getD_set (by omega),if_neg (fun h=>hkj h.symm)];exact h0) hx) (hA.2 k (rA listed hsz k (fun h=>absurd h hkj) hk))
   refine (wpOp_like (j:=i) ho (.inr ?_) hg).1 hw
   rw[eA,if_neg hkj];simp[hkl]
end
def restE (i j:Nat) (eq:List Nat):Nat→List Oper→Bool
 | _,[]=>true
 | k,o :: l=>(Nat.beq k i || Nat.beq k j || inL eq k || inL (edgesOf o) i) && restE i j eq (k+1) l
def lateChk (i j:Nat) (L:List Oper):Bool :=
 !(Nat.beq i j) && L.all nogrd && (match L[i]?,L[j]? with
  | some p,some q=>(match p.op,p.dst,q.op,q.dst with
   | .extract (.tmp _) _,some d,.store _ (.tmp x) (.tmp y),none=>!(Nat.beq x d) && !(Nat.beq y d)
   | _,_,_,_=>false) && (edgesOf p).all (fun e=>inL (edgesOf q) e) && restE i j (edgesOf q) 0 L
  | _,_=>false)
theorem inL_mem' (m:List Nat) (z:Nat):inL m z=true↔z∈m:=by
 induction m with
 | nil=>simp[inL]
 | cons y m ih =>
  rw[List.mem_cons,← ih,show inL (y :: m) z=(bif Nat.beq y z then true else inL m z) from rfl]
  cases hb:Nat.beq y z with
  | true=>simp[Nat.eq_of_beq_eq_true hb]
  | false =>
   have:z≠y:=fun h=>by rw[h,Nat.beq_refl] at hb;cases hb
   simp[this]
theorem restE_at {i j:Nat} {eq:List Nat}:∀ (l:List Oper) (k0:Nat),restE i j eq k0 l=true→∀ (k:Nat) (o:Oper),l[k]?=some o→k0+k≠i→k0+k≠j→k0+k∈eq∨i∈edgesOf o
 | [],_,_,k,o,h,_,_=>by simp at h
 | x :: l,k0,hc,k,o,h,h1,h2=>by
  simp only[restE,Bool.and_eq_true,Bool.or_eq_true] at hc
  match k with
  | 0 =>
   simp at h
   subst h
   rcases hc.1 with ((h3 | h3) | h3) | h3
   ·exact absurd (Nat.eq_of_beq_eq_true h3) h1
   ·exact absurd (Nat.eq_of_beq_eq_true h3) h2
   ·exact .inl ((inL_mem' _ _).1 h3)
   ·exact .inr ((inL_mem' _ _).1 h3)
  | k+1 =>
   have:=restE_at l (k0+1) hc.2 k o (by simpa using h) (by omega) (by omega)
   rw[show k0+1+k=k0+(k+1) by omega] at this
   exact this
theorem lateChk_ok {i j:Nat} {L:List Oper} (h:lateChk i j L=true):LateOk i j L:=by
 unfold lateChk at h
 simp only[Bool.and_eq_true,Bool.not_eq_true'] at h
 obtain ⟨⟨h1,h2⟩,h3⟩:=h
 split at h3
 ·rename_i p q hp hq
  simp only[Bool.and_eq_true] at h3
  obtain ⟨⟨h4,h5⟩,h6⟩:=h3
  split at h4
  ·rename_i s x d t u y e1 e2 e3 e4
   simp only[Bool.and_eq_true,Bool.not_eq_true'] at h4
   refine ⟨fun e=>?_,fun k o hk=>?_,⟨p,d,s,x,hp,e2,e1⟩,⟨q,t,u,y,hq,e4,e3,fun p' d' hp' hd'=>?_⟩,fun p' q' hp' hq' e he=>?_,fun k o q' hk hq' k1 k2=>?_⟩
   ·rw[e,Nat.beq_refl] at h1;cases h1
   ·have:=List.all_eq_true.1 h2 o (List.mem_of_getElem? hk)
    unfold nogrd at this
    split at this
    ·assumption
    ·cases this
   ·rw[hp] at hp'
    injection hp' with hp'
    subst hp'
    rw[e2] at hd'
    injection hd' with hd'
    subst hd'
    exact ⟨fun e=>(by rw[e,Nat.beq_refl] at h4;cases h4.1),fun e=>(by rw[e,Nat.beq_refl] at h4;cases h4.2)⟩
   ·rw[hp] at hp'
    injection hp' with hp'
    subst hp'
    rw[hq] at hq'
    injection hq' with hq'
    subst hq'
    exact (inL_mem' _ _).1 (List.all_eq_true.1 h5 e he)
   ·rw[hq] at hq'
    injection hq' with hq'
    subst hq'
    have:=restE_at L 0 h6 k o hk (by omega) (by omega)
    rw[Nat.zero_add] at this
    exact this
  ·cases h4
 ·cases h3
section
variable {P:Program} {T:Tab} {F:FuncId→Bool} {C:Ctx} {n:Nat}
theorem draw_any0 [CA] (hT:TabOk P T) (hF:∀ g,F g=true→fnOk P g=true) {id:Nat} {ops:Array Oper} (S:List Nat) (hs:∀ k∈mods (.region id ops true),k < n) (hm:∀ k∈mods (.region id ops true),inL S k=true)
  {env:Env} {hh:Heap} {df:List Deferred} {Q:Post} {pp:Option Nat} (h:vcDx0 P T F C.G ops Q pp env hh df) {a:Act} {w:World} (hr:Rel C n ⟨env,hh,df⟩ a w) :
  wpAny P .any ops (fun e a' w'=>Keeps S a a'∧∃ x st',Q x st'∧XOk e x st' a' w' C n) ops.size (Array.replicate ops.size false) a { w with drawn:=w.drawn+1 }:=by
 have hatf:∀ pp,drawChk pp ops ops.toList [] []=true→∀ (i:Nat) (o:Oper),ops.toList[i]?=some o→(∀ e∈edgesOf o,e < i)∧∀ (k:Nat) (p:Oper),(ops.toList.take i)[k]?=some p→confl pp ops o p=true→Nat.testBit (rowOf (accOf (ops.toList.take i)) (edgesOf o)) k=true:=fun pp hchk i o hi=>by
  have:=drawChk_at ops.toList [] (by simpa [accOf] using hchk) i o hi
  simpa using this
 have hrd:Rel C n ⟨env,hh,df⟩ a { w with drawn:=w.drawn+1 }:=by
  obtain ⟨h1,h2,β,V,h3,h4⟩:=hr
  exact ⟨h1,h2,β,V,h3.drew _,fun s=>RepD.mono (w:=w) (w':={ w with drawn:=w.drawn+1 }) (V:=V) (LeH.refl hh β) (fun k hk=>⟨hk,rfl⟩) _ _ (h4 s)⟩
 have hrep:∀ i,(Array.replicate ops.size false).getD i false=decide (i < ([]:List Oper).length):=fun i=>by
  rw[Array.getD_eq_getD_getElem?,Array.getElem?_replicate]
  split<;>simp
 unfold vcDx0 at h
 cases hsg:isSeg pp with
 | false =>
  rw[hsg] at h
  obtain ⟨hchk,hv⟩:=h
  refine seg_inv hT hF S hs hm (Qp:=fun dp=>∀ (e:Env) (h:Heap),Q (.pan dp) ⟨e,h,df⟩) (hatf pp hchk) [] ops.toList [] (by simp) (by simpa [accOf,cntA] using hv) (fun o ho=>?_) (fun i o hi hlt=>?_) (fun dp e h' ch a' w' hq hx hk=>⟨hk,.pan dp,_,hq e h',hx⟩) (fun fuel listed a' w' st hK hr hk hsz hl _=>?_) ops.size (Array.replicate ops.size false) a _ (by simp) (Nat.le_trans List.countP_le_length (by simp)) hrep hrd (Keeps.refl _ _)
  ·simp at ho
  ·have:=(List.getElem?_eq_some_iff.1 hi).1
   simp at hlt
   simp at this
   omega
  ·have hrd0:Region.ready .any ops listed=[]:=by
    simp only[Region.ready,List.filter_eq_nil_iff,List.mem_range]
    intro i hi
    have:=hl i
    rw[decide_eq_true (by simpa using hi)] at this
    have hlt:listed.getD i true=true:=by
     rw[Array.getD_eq_getD_getElem?] at this ⊢
     rw[Array.getElem?_eq_getElem (by omega)] at this ⊢
     exact this
    rw[hlt]
    simp
   obtain ⟨st1,hr1,hK1⟩:=adopt_sound ops.toList 0 (by simp) st hr hK
   exact wpAny_done hrd0 ⟨hk,.normal,st1,hK1,hr1⟩ fuel
 | true =>
  rw[hsg] at h
  obtain ⟨ms,hchk,hv⟩:=h
  simp only[Bool.and_eq_true] at hchk
  have hsc:=segChk_at (ks:=barsOf 0 ms) ops.toList [] 0 (by simpa [accOf] using hchk.2) rfl
  refine segs_sound hT hF S hs hm (Q:=Q) (K:=Q .normal) (a:=a) (barsOf 0 ms) (hatf (segLt pp) hchk.1) (fun i o hi=>by have:=hsc i o hi;simpa using this) (fun x st e a' w' hq hx hk=>⟨hk,x,st,by cases x<;>exact hq,hx⟩) ms ops.toList [] env hh df (by simp) (fun k hk=>hk) hv ops.size (Array.replicate ops.size false) a _ (by simp) (Nat.le_trans List.countP_le_length (by simp)) hrep hrd (Keeps.refl _ _)
theorem draw_any (hT:TabOk P T) (hF:∀ g,F g=true→fnOk P g=true) {id:Nat} {ops:Array Oper} (S:List Nat) (hs:∀ k∈mods (.region id ops true),k < n) (hm:∀ k∈mods (.region id ops true),inL S k=true)
  {env:Env} {hh:Heap} {df:List Deferred} {Q:Post} {pp:Option Nat} (h:vcDw P T F C.G ops Q pp env hh df) {a:Act} {w:World} (hr:Rel C n ⟨env,hh,df⟩ a w) :
  wpAny P .any ops (fun e a' w'=>Keeps S a a'∧∃ x st',Q x st'∧XOk e x st' a' w' C n) ops.size (Array.replicate ops.size false) a { w with drawn:=w.drawn+1 }:=by
 unfold vcDw at h
 cases ha:isAll pp with
 | true =>
  rw[ha] at h
  obtain ⟨t,hc,h⟩:=h
  simp only[Bool.and_eq_true] at hc
  exact ot_any hT hF (id:=id) S hs hm hc.1 (.inl ⟨rfl,hc.2⟩) h hr
 | false =>
  rw[ha] at h
  exact @draw_any0 P T F C n (CA.mk (caB pp) (caF pp) (caM pp) (caS pp) (caE pp) (caX pp)) hT hF id ops S hs hm env hh df Q pp h a w hr
def isTwo:Option Nat→Bool
 | some p=>Nat.ble 100000 p
 | none=>false
def twoPp:Option Nat→Option Nat
 | some p=>some (p - 100000)
 | none=>none
def isLt:Option Nat→Bool
 | some p=>Nat.ble 200000 p
 | none=>false
def ltPp:Option Nat→Option Nat
 | some p=>some (p - 200000)
 | none=>none
def isLd:Option Nat→Bool
 | some p=>Nat.ble 300000 p
 | none=>false
def ldPp:Option Nat→Option Nat
 | some p=>some (p - 300000)
 | none=>none
def vcDy (P:Program) (T:Tab) (F:FuncId→Bool) (G:Gl) (ops:Array Oper) (Q:Post) (pp:Option Nat) (env:Env) (h:Heap) (df:List Deferred):Prop :=
 bif isLd pp then ∃ i j:Nat,leadChk i j ops.toList=true∧vcDw P T F G ⟨lateL i j ops.toList⟩ (noPan Q) (ldPp pp) env h df
 else bif isLt pp then ∃ i j:Nat,lateChk i j ops.toList=true∧vcDw P T F G ⟨lateL i j ops.toList⟩ (noPan Q) (ltPp pp) env h df
 else bif isTwo pp then ∃ i:Nat,(Nat.ble (i+2) ops.toList.length && symE i 0 ops.toList)=true∧vcDw P T F G ⟨twoA i i ops.toList⟩ Q (twoPp pp) env h df∧vcDw P T F G ⟨twoB i i ops.toList⟩ Q (twoPp pp) env h df
 else vcDx P T F G ops Q pp env h df
theorem draw_soundY (hT:TabOk P T) (hF:∀ g,F g=true→fnOk P g=true) (hM:P.follows .mixedOrders=true) {id:Nat} {ops:Array Oper} (S:List Nat) (hs:∀ k∈mods (.region id ops true),k < n) (hm:∀ k∈mods (.region id ops true),inL S k=true)
  {env:Env} {hh:Heap} {df:List Deferred} {Q:Post} (h:∃ pp:Option Nat,vcDy P T F C.G ops Q pp env hh df) {a:Act} {w:World} (hr:Rel C n ⟨env,hh,df⟩ a w) :
  (Code.region id ops true).wp P (fun e a' w'=>Keeps S a a'∧∃ x st',Q x st'∧XOk e x st' a' w' C n) a w:=by
 obtain ⟨pp,h⟩:=h
 unfold vcDy at h
 cases hld:isLd pp with
 | true =>
  rw[hld] at h
  obtain ⟨i,j,hc,h1⟩:=h
  have mA:mods (.region id ⟨lateL i j ops.toList⟩ true)=mods (.region id ops true):=lateL_dst _ _ _
  have a1:=draw_any hT hF (id:=id) S (by rw[mA];exact hs) (by rw[mA];exact hm) h1 hr
  have hlA:(lateL i j ops.toList).length=ops.toList.length:=lateL_len _ _ _
  rw[show (⟨lateL i j ops.toList⟩:Array Oper).size=ops.toList.length from hlA] at a1
  have a2:=lead_wait hc (by rintro ch a' w' ⟨_,x,st',hq,hx⟩;cases x<;>first | exact hq.elim | exact hx.elim) (by rintro ⟨a',w',_,x,st',hq,hx⟩;cases x<;>exact hx.elim) a1
  have a3:wpAny P .any ops _ ops.size (Array.replicate ops.size false) a _:=a2
  refine Code.wp_mono ?_ (wp_region_any hM a3)
  rintro e a' w' ⟨hk,x,st',hq,hx⟩
  exact ⟨hk,x,st',by cases x<;>first | exact hq | exact hq.elim,hx⟩
 | false =>
 rw[hld] at h
 cases hlt:isLt pp with
 | true =>
  rw[hlt] at h
  obtain ⟨i,j,hc,h1⟩:=h
  have mA:mods (.region id ⟨lateL i j ops.toList⟩ true)=mods (.region id ops true):=lateL_dst _ _ _
  have a1:=draw_any hT hF (id:=id) S (by rw[mA];exact hs) (by rw[mA];exact hm) h1 hr
  have hlA:(lateL i j ops.toList).length=ops.size:=by rw[lateL_len];simp
  rw[show (⟨lateL i j ops.toList⟩:Array Oper).size=ops.size from hlA] at a1
  have hz:∀ k,(Array.replicate ops.size false).getD k false=false:=fun k=>by
   rw[Array.getD_eq_getD_getElem?,Array.getElem?_replicate]
   split<;>simp
  have a2:=late_S0 (lateChk_ok hc) (by rintro ch a' w' ⟨_,x,st',hq,hx⟩;cases x<;>first | exact hq.elim | exact hx.elim) (by rintro ⟨a',w',_,x,st',hq,hx⟩;cases x<;>exact hx.elim) ops.size _ a _ (by simp) (hz j) a1
  refine Code.wp_mono ?_ (wp_region_any hM a2)
  rintro e a' w' ⟨hk,x,st',hq,hx⟩
  exact ⟨hk,x,st',by cases x<;>first | exact hq | exact hq.elim,hx⟩
 | false =>
 rw[hlt] at h
 cases hb:isTwo pp with
 | false=>rw[hb] at h;exact draw_sound hT hF hM S hs hm ⟨pp,h⟩ hr
 | true =>
  rw[hb] at h
  obtain ⟨i,hc,h1,h2⟩:=h
  simp only[Bool.and_eq_true] at hc
  have hi:i+1 < ops.toList.length:=by have:=Nat.le_of_ble_eq_true hc.1;omega
  refine wp_region_any hM ?_
  have hlA:(twoA i i ops.toList).length=ops.size:=by rw[twoA_len];simp
  have hlB:(twoB i i ops.toList).length=ops.size:=by rw[twoB_len];simp
  have mA:mods (.region id ⟨twoA i i ops.toList⟩ true)=mods (.region id ops true):=twoA_dst _ _ _
  have a1:=draw_any hT hF (id:=id) S (by rw[mA];exact hs) (by rw[mA];exact hm) h1 hr
  have a2:=draw_any hT hF (id:=id) S (fun k hk=>hs k (twoB_dst _ _ _ k hk)) (fun k hk=>hm k (twoB_dst _ _ _ k hk)) h2 hr
  rw[show (⟨twoA i i ops.toList⟩:Array Oper).size=ops.size from hlA] at a1
  rw[show (⟨twoB i i ops.toList⟩:Array Oper).size=ops.size from hlB] at a2
  have hz:∀ k,(Array.replicate ops.size false).getD k false=false:=fun k=>by
   rw[Array.getD_eq_getD_getElem?,Array.getElem?_replicate]
   split<;>simp
  exact two_S0 hi hc.2 ops.size _ a _ (by simp) (hz i) (hz (i+1)) a1 a2
end
end Go.Dm
/-
  The second engine: code in which memory may be told anew ahead of some regions, however deep they stand. It holds of every program.
-/
namespace Go.Dm
open Go Go.Eng Go.RowKit
def firstR:Code→Nat
 | .region id _ _=>id
 | .seq x _=>firstR x
 | .block _ x=>firstR x
 | .loop x=>firstR x
 | _=>1000000
def brJ (J:List Nat) (G:Gl) (n:Nat) (x:Code) (v:St→Prop) (st:St):Prop :=
 match x with
 | .seq y _=>bif inL J (1000000+firstR y) then TurnP G n v st else v st
 | .region id _ _=>bif inL J (1000000+id) then TurnP G n v st else v st
 | _=>v st
def vcS (J:List Nat) (P:Program) (T:Tab) (F:FuncId→Bool) (G:Gl) (n:Nat):Code→St→Post→Prop
 | .skip,st,Q=>Q .normal st
 | .region _ ops false,st,Q=>vcOps P T F G ops (Q .normal) Q ops.toList st
 | .region _ ops true,⟨env,h,df⟩,Q=>∃ pp:Option Nat,vcDy P T F G ops Q pp env h df
 | .seq x y,st,Q=>vcS J P T F G n x st (fun e st'=>match e with | .normal=>bif inL J (firstR y) then TurnP G n (fun st1=>vcS J P T F G n y st1 Q) st' else vcS J P T F G n y st' Q | e=>Q e st')
 | .cond c x y,st,Q=>bcase (sv G st c) (brJ J G n x (vcS J P T F G n x · Q) st) (brJ J G n y (vcS J P T F G n y · Q) st)
 | .block id x,st,Q=>vcS J P T F G n x st (fun e st'=>match e with | .exit i=>bif Nat.beq i id then Q .normal st' else Q (.exit i) st' | e=>Q e st')
 | .loop x,st,Q=>LoopP G n (vcS J P T F G n x) (mods x) st Q
 | .exit id,st,Q=>Q (.exit id) st
 | .ret,st,Q=>Q .ret st
 | _,_,_=>False
section
variable {P:Program} {T:Tab} {F:FuncId→Bool} {C:Ctx} {n:Nat}
theorem vcS_sound (J:List Nat) (hT:TabOk P T) (hF:∀ g,F g=true→fnOk P g=true) (hM:P.follows .mixedOrders=true):∀ (c:Code) (S:List Nat),(∀ k∈mods c,k < n)→(∀ k∈mods c,inL S k=true)→∀ (C:Ctx) (st:St) (a:Act) (w:World) (Q:Post),vcS J P T F C.G n c st Q→Rel C n st a w →
  c.wp P (fun e a' w'=>Keeps S a a'∧∃ x st',Q x st'∧XOk e x st' a' w' C n) a w:=by
 intro c
 induction c with
 | skip=>intro S _ _ C st a w Q h hr;exact wp_skip ⟨Keeps.refl _ _,.normal,st,h,hr⟩
 | region id ops draw =>
  intro S hs hm C st a w Q h hr
  cases draw with
  | true =>
   obtain ⟨env,hp,df⟩:=st
   exact draw_soundY hT hF hM S hs hm h hr
  | false =>
   refine wp_region_list (ops_sound hT hF (K:=Q .normal) (Q:=Q) (a0:=a) (S:=S) (fun st a w hq hr hk=>⟨hk,.normal,st,hq,hr⟩) (fun d st ch a w hq hx hk=>⟨hk,.pan d,st,hq,hx⟩) ops.toList (fun o ho d hd=>?_) st a w h hr (Keeps.refl _ _))
   have:d∈mods (.region id ops false):=by simp only[mods,List.mem_filterMap];exact ⟨o,ho,hd⟩
   exact ⟨hs d this,hm d this⟩
 | seq x y ihx ihy =>
  intro S hs hm C st a w Q h hr
  simp only[mods,List.mem_append] at hs hm
  refine wp_seq (Code.wp_mono ?_ (ihx S (fun k hk=>hs k (.inl hk)) (fun k hk=>hm k (.inl hk)) C st a w _ h hr))
  rintro e a' w' ⟨hk,x,st',hq,hx⟩
  cases e with
  | normal =>
   cases x<;>try exact hx.elim
   have hq':∃ st1,vcS J P T F C.G n y st1 Q∧Rel C n st1 a' w':=by
    have hq:(bif inL J (firstR y) then TurnP C.G n (fun st1=>vcS J P T F C.G n y st1 Q) st' else vcS J P T F C.G n y st' Q):=hq
    cases hb:inL J (firstR y) with
    | true=>rw[hb] at hq;obtain ⟨st1,ht,hk1⟩:=hq;exact ⟨st1,hk1,ht C a' w' rfl hx⟩
    | false=>rw[hb] at hq;exact ⟨st',hq,hx⟩
   obtain ⟨st1,hq1,hx1⟩:=hq'
   refine Code.wp_mono ?_ (ihy S (fun k hk=>hs k (.inr hk)) (fun k hk=>hm k (.inr hk)) C st1 a' w' Q hq1 hx1)
   rintro e a'' w'' ⟨hk',rest⟩
   exact ⟨hk.trans hk',rest⟩
  | exit i=>cases x<;>first | exact hx.elim | exact ⟨hk,_,st',hq,hx⟩
  | ret=>cases x<;>first | exact hx.elim | exact ⟨hk,_,st',hq,hx⟩
  | panic ch=>cases x<;>first | exact hx.elim | exact ⟨hk,_,st',hq,hx⟩
  | goto l=>cases x<;>exact hx.elim
  | outgrown=>cases x<;>exact hx.elim
 | cond c x y ihx ihy =>
  intro S hs hm C st a w Q h hr
  simp only[mods,List.mem_append] at hs hm
  obtain ⟨hsz,hdf,β,V,hrel,he⟩:=hr
  obtain ⟨b,hv,ht,hf⟩:=bcase.use h (he.eval hrel.gl c)
  refine wp_cond hv ?_
  have turned:∀ {z:Code},brJ J C.G n z (vcS J P T F C.G n z · Q) st→∃ st1,vcS J P T F C.G n z st1 Q∧Rel C n st1 a w:=fun {z} h=>by
   have stay:vcS J P T F C.G n z st Q→∃ st1,vcS J P T F C.G n z st1 Q∧Rel C n st1 a w:=fun h=>⟨st,h,hsz,hdf,β,V,hrel,he⟩
   have turn:∀ b:Bool,(bif b then TurnP C.G n (vcS J P T F C.G n z · Q) st else vcS J P T F C.G n z st Q)→∃ st1,vcS J P T F C.G n z st1 Q∧Rel C n st1 a w:=fun b h=>by
    cases b with
    | true=>obtain ⟨st1,ht,hk1⟩:=h;exact ⟨st1,hk1,ht C a w rfl ⟨hsz,hdf,β,V,hrel,he⟩⟩
    | false=>exact stay h
   cases z<;>first | exact stay h | exact turn _ h
  cases b with
  | true=>obtain ⟨st1,k1,k2⟩:=turned (ht rfl);exact ihx S (fun k hk=>hs k (.inl hk)) (fun k hk=>hm k (.inl hk)) C st1 a w Q k1 k2
  | false=>obtain ⟨st1,k1,k2⟩:=turned (hf rfl);exact ihy S (fun k hk=>hs k (.inr hk)) (fun k hk=>hm k (.inr hk)) C st1 a w Q k1 k2
 | block id x ih =>
  intro S hs hm C st a w Q h hr
  refine wp_block (Code.wp_mono ?_ (ih S hs hm C st a w _ h hr))
  rintro e a' w' ⟨hk,x,st',hq,hx⟩
  cases e with
  | exit i =>
   cases x<;>try exact hx.elim
   obtain ⟨rfl,hx⟩:=hx
   simp only[Exit.inBlock]
   by_cases hi:i=id
   ·subst hi
    rw[if_pos rfl]
    simp only[Nat.beq_refl,cond_true] at hq
    exact ⟨hk,_,st',hq,hx⟩
   ·rw[if_neg hi]
    have:Nat.beq i id=false:=beq_ne hi
    simp only[this,cond_false] at hq
    exact ⟨hk,_,st',hq,rfl,hx⟩
  | normal=>cases x<;>first | exact hx.elim | exact ⟨hk,_,st',hq,hx⟩
  | ret=>cases x<;>first | exact hx.elim | exact ⟨hk,_,st',hq,hx⟩
  | panic ch=>cases x<;>first | exact hx.elim | exact ⟨hk,_,st',hq,hx⟩
  | goto l=>cases x<;>exact hx.elim
  | outgrown=>cases x<;>exact hx.elim
 | loop x ih =>
  intro S hs hm C st a w Q h hr
  obtain ⟨ι,I,μ,hstart,hround⟩:=h
  obtain ⟨hsz,hdf,β,V,hrel,he⟩:=hr
  let C':Ctx:=⟨w,fun k=>∃ i o,st.h[i]?=some o∧o.live=true∧Bk o (β i) k,V,C.G⟩
  have hrel':RelD C' st.h β V w:=base_start hrel
  have hr':Rel C' n st a w:=⟨hsz,hdf,β,V,hrel',he⟩
  have back:∀ e y st2 a2 w2,XOk e y st2 a2 w2 C' n→XOk e y st2 a2 w2 C n:=by
   intro e y st2 a2 w2 hx
   have key:∀ st2 a2 w2,Rel C' n st2 a2 w2→Rel C n st2 a2 w2:=fun st2 a2 w2 ⟨h1,h2,β2,V2,h3,h4⟩=>⟨h1,h2,β2,V2,rebase hrel h3,h4⟩
   cases e<;>cases y<;>try exact hx.elim
   ·exact key _ _ _ hx
   ·exact ⟨hx.1,key _ _ _ hx.2⟩
   ·exact key _ _ _ hx
   ·obtain ⟨t,u,h0,h1,h2,β2,V2,h3,h4,h5⟩:=hx
    exact ⟨t,u,h0,h1,h2,β2,V2,rebase hrel h3,h4,h5⟩
  have hbase:∀ a',Keeps (mods x) a a'→Base C' st (mods x) a':=fun a' hk=>⟨fun k hv ⟨i,o,h1,h2,h3⟩=>hrel.vout i o k h1 h2 h3 hv,hrel.vlt,a,β,he,hk⟩
  let J:ι→Act→World→Prop:=fun i a' w'=>∃ st1,I i st1∧Rel C' n st1 a' w'∧Keeps (mods x) a a'∧Keeps S a a'
  obtain ⟨i0,st0,hr0,hI0⟩:=hstart C' a w rfl hr'
  classical
  have least:∀ (a':Act) (w':World),(∃ i,J i a' w')→∃ i,J i a' w'∧∀ j,J j a' w'→μ i≤μ j:=by
   intro a' w' hex
   have wf:∀ m,∀ i,μ i=m→J i a' w'→∃ i,J i a' w'∧∀ j,J j a' w'→μ i≤μ j:=by
    intro m
    induction m using Nat.strongRecOn with
    | _ m ihm =>
     intro i hi hJ
     by_cases hall:∀ j,J j a' w'→μ i≤μ j
     ·exact ⟨i,hJ,hall⟩
     ·have ⟨j,hj⟩:=Classical.not_forall.1 hall
      have ⟨hJj,hlt⟩:=Classical.not_imp.1 hj
      exact ihm (μ j) (by omega) j rfl hJj
   obtain ⟨i,hi⟩:=hex
   exact wf _ i rfl hi
  let ν:Act→World→Nat:=fun a' w'=>if hex:∃ i,J i a' w' then μ (Classical.choose (least a' w' hex)) else 0
  have hν:∀ a' w',(∃ i,J i a' w')→∃ i,J i a' w'∧ν a' w'=μ i:=by
   intro a' w' hex
   refine ⟨Classical.choose (least a' w' hex),(Classical.choose_spec (least a' w' hex)).1,?_⟩
   simp only[ν,dif_pos hex]
  have hνle:∀ a' w' j,J j a' w'→ν a' w'≤μ j:=by
   intro a' w' j hj
   have hex:∃ i,J i a' w':=⟨j,hj⟩
   simp only[ν,dif_pos hex]
   exact (Classical.choose_spec (least a' w' hex)).2 j hj
  refine wp_loop (fun a' w'=>∃ i,J i a' w') ν ⟨i0,st0,hI0,hr0,Keeps.refl _ _,Keeps.refl _ _⟩ ?_
  intro a1 w1 hex
  obtain ⟨i,⟨st1,hI,hr1,hk1,hk2⟩,hνi⟩:=hν a1 w1 hex
  have hb:=ih (mods x) hs (fun k hk=>inL_iff.2 hk) C' st1 a1 w1 _ (hround i st1 hI) hr1
  refine Code.wp_mono ?_ hb
  rintro e a2 w2 ⟨hk,y,st2,hq,hx⟩
  have hkS:Keeps S a1 a2:=fun k hk'=>hk k (by
   cases h:inL (mods x) k with
   | false=>rfl
   | true=>rw[hm k (inL_iff.1 h)] at hk';cases hk')
  cases e with
  | normal =>
   cases y<;>try exact hx.elim
   obtain ⟨i',st3,hr3,hI3,hlt⟩:=hq C' a2 w2 rfl hx (hbase a2 (hk1.trans hk))
   have hJ:J i' a2 w2:=⟨st3,hI3,hr3,hk1.trans hk,hk2.trans hkS⟩
   refine ⟨⟨i',hJ⟩,?_⟩
   have:=hνle a2 w2 i' hJ
   rw[hνi]
   omega
  | exit j=>cases y<;>first | exact hx.elim | exact ⟨hk2.trans hkS,_,st2,hq,back _ _ _ _ _ hx⟩
  | ret=>cases y<;>first | exact hx.elim | exact ⟨hk2.trans hkS,_,st2,hq,back _ _ _ _ _ hx⟩
  | panic ch=>cases y<;>first | exact hx.elim | exact ⟨hk2.trans hkS,_,st2,hq,back _ _ _ _ _ hx⟩
  | goto l=>cases y<;>exact hx.elim
  | outgrown=>cases y<;>exact hx.elim
 | exit id=>intro S _ _ C st a w Q h hr;exact wp_exit ⟨Keeps.refl _ _,.exit id,st,h,rfl,hr⟩
 | ret=>intro S _ _ C st a w Q h hr;exact wp_ret ⟨Keeps.refl _ _,.ret,st,h,hr⟩
 | _=>intro S _ _ C st a w Q h hr;exact h.elim
end
section
variable {P:Program} {T:Tab} {F:FuncId→Bool} {G:Gl}
theorem enterHJ (J:List Nat) (hT:TabOk P T) (hF:∀ g,F g=true→fnOk P g=true) (hM:Mix P) {f:FuncId} {fn:Func} {c:Code} (hf:P.funcs[f]?=some fn) (hb:fn.body=some c) (N:Nat) (hN:fn.ntmps=N) (hs:allLt N (mods c)=true) (rs:List ResultVar) (hrs:fn.results.toList=rs)
  (args:List D) (hal:Nat.ble args.length N=true) (hin:Heap) (ptrs:List Nat) (hpa:ptrs.map (envOf args)=ptrsD 0 ptrs) (hpb:allBlk hin 0 ptrs=true) (hpm:ptrs.all (fun k=>!inL (mods c) k)=true)
  (m:Nat) (nms:List (Option Value)) (htg:tagsN hin m ptrs.length nms) (Q:Out→Prop) (h:vcS J P T F G N c ⟨envOf args,hin,[]⟩ (FinH T G rs ptrs hin m nms Q)):CTH P G f (ptrs.length+nms.length) hin args Q:=by
 subst hN
 refine enterH0 hT hf hb fn.ntmps rfl hs rs hrs args hal hin ptrs hpa hpb hpm m nms htg Q (fun C a w hG hr=>?_)
 subst hG
 exact vcS_sound J hT hF hM.ok c (mods c) (allLt_mem hs) (fun k hk=>inL_iff.2 hk) C _ a w _ h hr
theorem enterJ (J:List Nat) (hT:TabOk P T) (hF:∀ g,F g=true→fnOk P g=true) (hM:Mix P) {f:FuncId} {fn:Func} {c:Code} (hf:P.funcs[f]?=some fn) (hb:fn.body=some c) (N:Nat) (hN:fn.ntmps=N) (hs:allLt N (mods c)=true) (rs:List ResultVar) (hrs:fn.results.toList=rs)
  (args:List D) (hal:Nat.ble args.length N=true) (Q:Out→Prop) (h:vcS J P T F G N c ⟨envOf args,[],[]⟩ (Fin T rs Q)):CT P G f args Q:=by
 subst hN
 subst hrs
 intro w V vals hV hG hargs
 have hlen:=hargs.len
 have hal:=Nat.le_of_ble_eq_true hal
 refine calls_of_wp hf hb ?_
 have hnth:∀ (ds:List D) (vs:List Value),RepDL [] (fun _=>undef) V w ds vs→∀ i,RepD [] (fun _=>undef) V w (nth .any ds i) (vs.getD i undef):=by
  intro ds
  induction ds with
  | nil=>intro vs _ i;simp only[nth,RepD]
  | cons d ds ih =>
   intro vs h i
   simp only[RepDL] at h
   obtain ⟨v,us,rfl,h1,h2⟩:=h
   cases i with
   | zero=>simpa [nth] using h1
   | succ i=>simpa [nth] using ih us h2 i
 have hr:Rel ⟨w,fun _=>False,V,G⟩ fn.ntmps ⟨envOf args,[],[]⟩ { tmps:=(⟨vals⟩:Array Value)++Array.replicate (fn.ntmps - (⟨vals⟩:Array Value).size) undef,defers:=[] } w:=by
  refine ⟨by simp;omega,rfl,fun _=>undef,V,empty_rel hV hG,fun i=>?_⟩
  have h1:=hnth args vals hargs i
  have h2:((⟨vals⟩:Array Value)++Array.replicate (fn.ntmps - (⟨vals⟩:Array Value).size) undef).getD i undef=vals.getD i undef:=by
   rw[Array.getD_eq_getD_getElem?,List.getD_eq_getElem?_getD]
   by_cases hi:i < vals.length
   ·rw[Array.getElem?_append_left (by simpa using hi)]
    simp
   ·rw[Array.getElem?_append_right (by simp;omega),List.getElem?_eq_none (by omega)]
    rw[Array.getElem?_replicate]
    split<;>rfl
  rw[h2]
  exact h1
 have hlt:=allLt_mem hs
 refine Code.wp_mono ?_ (vcS_sound J hT hF hM.ok c (mods c) hlt (fun k hk=>inL_iff.2 hk) ⟨w,fun _=>False,V,G⟩ _ _ w _ h hr)
 rintro e a' w' ⟨_,x,st',hq,hx⟩
 have ret:∀ {st':St},Rel ⟨w,fun _=>False,V,G⟩ fn.ntmps st' a' w'→(match resD T st' fn.results.toList with | some ds=>forceDL ds fun ds=>st'.df=[]∧RetTo Q st'.h (oneOrD ds) | none=>False) →
   a'.defers=[]∧∃ v,(results fn a'.tmps).run P w'=.ok v w'∧PostC G Q V w (.returned v) w':=by
  rintro st' ⟨_,hdf,β,V',hrel,he⟩ hq
  cases hres:resD T st' fn.results.toList with
  | none=>rw[hres] at hq;exact hq.elim
  | some ds =>
   rw[hres] at hq
   simp only[forceDL_eq] at hq
   obtain ⟨hd0,src,d',h',ht,hQ⟩:=hq
   obtain ⟨v,hv1,hv2⟩:=run_resultsD' hT hrel he hres
   obtain ⟨h1,h2⟩:=ht.use hrel hv2
   simp only[RepDL] at h2
   obtain ⟨v',us,e,h3,_⟩:=h2
   injection e with e1 e2
   subst e1
   exact ⟨hdf.trans hd0,v,hv1,d',h',_,_,hQ,h1,h3⟩
 cases e with
 | normal =>
  cases x<;>try exact hx.elim
  exact ret hx hq
 | ret =>
  cases x<;>try exact hx.elim
  exact ret hx hq
 | panic ch =>
  cases x<;>try exact hx.elim
  obtain ⟨t,u,hch,hsz,hdf,β,V',hrel,he,hd⟩:=hx
  obtain ⟨hd0,d',ht,hQ⟩:=hq
  obtain ⟨h1,h2⟩:=ht.use hrel (vs:=[.iface t u]) (by simp only[RepDL];exact ⟨_,_,rfl,hd,rfl⟩)
  simp only[RepDL] at h2
  obtain ⟨v',us,e,h3,_⟩:=h2
  injection e with e1 e2
  subst e1
  exact ⟨hdf.trans hd0,d',t,u,_,_,hch,hQ,h1,h3⟩
 | exit i=>cases x<;>first | exact hx.elim | exact hq.elim
 | goto l=>cases x<;>exact hx.elim
 | outgrown=>cases x<;>exact hx.elim

def holdPostJ (J:List Nat) (P:Program) (T:Tab) (F:FuncId→Bool) (G:Gl) (n:Nat) (y:Code) (Q:Post):Post
 | .normal,st'=>Hold (vcS J P T F G n y st' Q)
 | e,st'=>Q e st'
theorem brSkip {J:List Nat} {n:Nat} {v:St→Prop} {st:St} (h:v st):brJ J G n .skip v st:=h
theorem stepJ {J:List Nat} {n:Nat} {x y:Code} {st:St} {Q:Post} (hJ:inL J (firstR y)=false) (h:vcS J P T F G n x st (holdPostJ J P T F G n y Q)):vcS J P T F G n (.seq x y) st Q:=by
 have e:holdPostJ J P T F G n y Q=(fun e st'=>match e with | .normal=>bif inL J (firstR y) then TurnP G n (fun st1=>vcS J P T F G n y st1 Q) st' else vcS J P T F G n y st' Q | e=>Q e st'):=by
  funext e st'
  cases e with
  | normal=>rw[hJ];exact propext ⟨Hold.out,Hold.mk⟩
  | _=>rfl
 rw[e] at h
 exact h
theorem joinJ {J:List Nat} {n:Nat} {x y:Code} {env:Env} {h:Heap} {df:List Deferred} {Q:Post} {ι:Type} (hJ:inL J (firstR y)=false) (val:ι→List (Nat × D)) (hpI:ι→Heap) (Inv:ι→Prop)
  (tail:∀ (e0:Env) (i:ι),Inv i→vcS J P T F G n y ⟨Env.many e0 (val i),hpI i,df⟩ Q)
  (head:∀ Rd:St→Prop,(∀ (i:ι) (e:Env),agree e (val i)→Inv i→Rd ⟨e,hpI i,df⟩)→vcS J P T F G n x ⟨env,h,df⟩ (seqPost Rd Q)) :
  vcS J P T F G n (.seq x y) ⟨env,h,df⟩ Q:=by
 have hh:=head (fun st'=>vcS J P T F G n y st' Q) (fun i e ha hi=>by
  have:=tail e i hi
  rw[many_self ha] at this
  exact this)
 have e:seqPost (fun st'=>vcS J P T F G n y st' Q) Q=(fun e st'=>match e with | .normal=>bif inL J (firstR y) then TurnP G n (fun st1=>vcS J P T F G n y st1 Q) st' else vcS J P T F G n y st' Q | e=>Q e st'):=by
  funext e st'
  cases e with
  | normal=>rw[hJ];rfl
  | _=>rfl
 rw[e] at hh
 exact hh
end
end Go.Dm
